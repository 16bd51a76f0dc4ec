/-
  TEXTS WITH ONE DIGEST: the map from digests to texts; the walk of clash.
-/
import Derived.Test.YtkcmacglomdfcaaTxA
import Derived.Test.YtkcmacglomdfcaaErr
import Derived.Maps.StringElems
import Derived.WideKeyArr2
import Derived.LoopTactic
namespace Go.Proofs.Ytkcmacglomdfcaa
open Go.RowKit

theorem sumKeyed : Maps.Keyed Try.prog 26 := Maps.Keyed.of_law arrSum.law
def litB (b : UInt8) : Lit := .int .u8 (b.toNat : Int)
theorem keyLits_some (m : Nat) (d : Dg) (hd : d.length = 32) : ∀ L : List Nat, (∀ i ∈ L, i < 32) → L.mapM (fun i => Try.prog.keyLits (m + 1) 5 (((d.map B8).drop (i * 1)).take 1)) = some (L.map fun i => [litB (d.getD i 0)])
  | [], _ => rfl
  | i :: L, h => by
    have hr := keyLits_some m d hd L (fun j hj => h j (by simp [hj]))
    have hi := h i (by simp)
    have hx : d.getD i 0 = d[i]'(by omega) := by rw [List.getD_eq_getElem?_getD, List.getElem?_eq_getElem (by omega)]; rfl
    have e : ((d.map B8).drop (i * 1)).take 1 = [B8 (d[i]'(by omega))] := by
      rw [Nat.mul_one, List.drop_eq_getElem_cons (by simp; omega)]
      simp
    have hw : (Lit.int .u8 ((d[i]'(by omega)).toNat : Int)).wf = true := by
      have := (d[i]'(by omega)).toNat_lt
      simp only [Lit.wf, Bool.and_eq_true, decide_eq_true_eq]
      exact ⟨by show (0 : Int) ≤ _; omega, by show _ ≤ (255 : Int); omega⟩
    rw [List.mapM_cons, hr, e, List.map_cons, hx]
    have : Try.prog.keyLits (m + 1) 5 [B8 (d[i]'(by omega))] = some [litB (d[i]'(by omega))] := by
      unfold Program.keyLits
      simp only [Try.underlying5, B8]
      rw [if_pos ⟨trivial, hw⟩]
      rfl
    rw [this]
    rfl
/-- A digest as a key. -/
def kd (d : Dg) : Lit := .string (keyBytes (d.map litB))
theorem range_getD (d : Dg) (hd : d.length = 32) : (List.range 32).map (fun i => d.getD i 0) = d := by
  apply List.ext_getElem
  · simp [hd]
  · intro i h1 h2
    simp [h2]
theorem kd_of (d : Dg) (hd : d.length = 32) : keyOf Try.prog 26 (SumV d) = some (kd d) := by
  have hne : (Try.prog.types.size == 0) = false := by kernel_rfl
  obtain ⟨m, hm⟩ : ∃ m, Try.prog.types.size = m + 1 := Nat.exists_eq_succ_of_ne_zero (fun h => by rw [h] at hne; cases hne)
  have hkt := arrSum.keyType ⟨m, hm⟩
  have hr := keyLits_some m d hd (List.range 32) (fun i hi => List.mem_range.1 hi)
  unfold keyOf
  simp only [arrSum.hu]
  rw [if_pos (by simp [hkt, SumV, Value.formed, arrSum.hu, arrSum.size, hd]), hm]
  unfold Program.keyLits
  simp only [arrSum.hu, SumV, Value.cells, arrSum.one]
  rw [if_pos (by rw [arrSum.size]; simp [hd]), hr]
  have hfl : ((List.range 32).map fun i => [litB (d.getD i 0)]).flatten = d.map litB := by
    have h1 : ∀ l : List Nat, (l.map fun i => [litB (d.getD i 0)]).flatten = (l.map fun i => d.getD i 0).map litB := fun l => by
      induction l with
      | nil => rfl
      | cons a r ih => rw [List.map_cons, List.flatten_cons, ih]; rfl
    rw [h1, range_getD d hd]
  simp only [Option.map_some, hfl]
  rfl
theorem kd_key (d : Dg) (hd : d.length = 32) : WideAt.IsKeyLit (kd d) := sumKeyed.key (v := SumV d) (l := kd d) (kd_of d hd)
theorem B8_inj {a b : UInt8} (h : B8 a = B8 b) : a = b := by
  simp only [B8, Value.int.injEq, true_and] at h
  exact UInt8.toNat_inj.1 (by omega)
theorem kd_inj {a b : Dg} (ha : a.length = 32) (hb : b.length = 32) (h : kd a = kd b) : a = b := by
  have h1 := kd_of a ha
  rw [h] at h1
  have h2 := sumKeyed.inj h1 (kd_of b hb)
  simp only [SumV, Value.agg.injEq] at h2
  exact (List.map_inj_right (fun x y hxy => B8_inj hxy)).1 (by simpa using h2)
theorem ownsMap_below {H : Type} {w w' : World} {P : Program} {k : TypeId} {R : Value → Option (DataW H × List MemPlace)} {b n : Nat} {D : DataW H} (h : w.ownsMap P k R b n D) (hb : Below w.heap.size w w') : w'.ownsMap P k R b n D := by
  obtain ⟨es, clock, h1, h2⟩ := h
  exact ⟨es, clock, heap_below h1 hb, h2⟩
/-- 'v, ok := m[k]', elements that are strings. -/
theorem wpList_lookup_own_ok_string {H : Type} {P : Program} (w : World) {ops : Array Oper} {rest : List Oper} {o : Oper} {a : Act} {Q : Exit → Act → World → Prop} (hg : o.guard = none) (m x : Operand) (t : TypeId) (hop : o.op = Op.lookup t m x true)
    (k e : TypeId) (K : Maps.Keyed P k) (ht : P.underlying t = some (.map k e)) (he : P.underlying e = some .string) (hz : (zeroValue e).run P w = .ok (.string ⟨#[]⟩) w) (b n : Nat) (D : DataW H)
    (hm : a.eval m = .map (some b)) (hown : w.ownsMap P k (plainElem P e) b n D) (key : Value) (kl : Lit) (hx : a.eval x = key) (hkey : keyOf P k key = some kl)
    (hK : ∀ c : ByteArray, D.atKey kl (.lit (.string [])) = .lit (.string c.data.toList) → wpList P ops Q rest (a.put o.dst (.tuple #[.string c, .bool (Maps.has D kl)])) w) :
    wpList P ops Q (o :: rest) a w :=
  wpList_lookup_own_ok w hg m x t hop k e K ht (plainElem P e) hz (.lit (.string [])) [] (plainElem_string he (by simp [ByteArray.size])) b n D hm hown key kl hx hkey (fun v ps hv => by
    obtain ⟨c, rfl, hc, hwc⟩ := plainElem_string_inv he hv
    exact hK c (congrArg Prod.fst hc))

/-- The texts that the map has seen. -/
structure Seen (F : Dg → Dg) (L : List Dg) (D : DataW Unit) : Prop where
  isMap : Maps.IsMap D
  all : ∀ t ∈ L, Maps.has D (kd (F t)) = true ∧ ∀ z, D.atKey (kd (F t)) z = .lit (.string t)
  only : ∀ d : Dg, d.length = 32 → Maps.has D (kd d) = true → ∃ t ∈ L, F t = d
theorem Seen.nil (F : Dg → Dg) : Seen F [] (.map []) := ⟨⟨[], rfl⟩, fun t ht => by simp at ht, fun d hd h => by simp [Maps.has_eq] at h⟩
theorem Seen.clear {F : Dg → Dg} {L : List Dg} {D : DataW Unit} (h : Seen F L D) : Clear F L := fun t ht t' ht' e => by
  have h1 := (h.all t ht).2 (.lit (.bool false))
  rw [e, (h.all t' ht').2] at h1
  simpa using h1.symm
theorem Seen.snoc {F : Dg → Dg} (hF : ∀ t, (F t).length = 32) {L : List Dg} {D : DataW Unit} (h : Seen F L D) {t : Dg} (ht : Maps.has D (kd (F t)) = true → D.atKey (kd (F t)) (.lit (.string [])) = .lit (.string t)) : Seen F (L ++ [t]) (D.put (kd (F t)) (.lit (.string t))) := by
  have hk := kd_key (F t) (hF t)
  refine ⟨h.isMap.put _ _, fun x hx => ?_, fun d hd hh => ?_⟩
  · by_cases e : F x = F t
    · have ex : x = t := by
        rcases List.mem_append.1 hx with hx | hx
        · have h1 := h.all x hx
          rw [e] at h1
          have h2 := ht h1.1
          rw [h1.2] at h2
          simpa using h2
        · simpa using hx
      rw [e, ex]
      exact ⟨Maps.has_put_same h.isMap hk _, fun z => Maps.atKey_put_same h.isMap hk _ z⟩
    · have hne : kd (F x) ≠ kd (F t) := fun e' => e (kd_inj (hF x) (hF t) e')
      rcases List.mem_append.1 hx with hx | hx
      · rw [Maps.has_put_other hne]
        exact ⟨(h.all x hx).1, fun z => by rw [Maps.atKey_put_other hne]; exact (h.all x hx).2 z⟩
      · simp at hx
        subst hx
        exact absurd rfl e
  · by_cases e : d = F t
    · exact ⟨t, by simp, e.symm⟩
    · have hne : kd d ≠ kd (F t) := fun e' => e (kd_inj hd (hF t) e')
      rw [Maps.has_put_other hne] at hh
      obtain ⟨x, hx, hx2⟩ := h.only d hd hh
      exact ⟨x, by simp [hx], hx2⟩
/-- What the map answers. -/
theorem Seen.at_ {F : Dg → Dg} {L : List Dg} {D : DataW Unit} (h : Seen F L D) {d : Dg} (hd : d.length = 32) {z : DataW Unit} {c : List UInt8} (hc : D.atKey (kd d) z = .lit (.string c)) (hh : Maps.has D (kd d) = true) : c ∈ L ∧ F c = d := by
  obtain ⟨t, ht, hF⟩ := h.only d hd hh
  have h1 := (h.all t ht).2 z
  rw [hF, hc] at h1
  have : c = t := by simpa using h1
  subst this
  exact ⟨ht, hF⟩
/-- In the loop over texts. -/
structure ClI (F : Dg → Dg) (w : World) (g : Nat) (L : List Dg) (k : Nat) (u : World) : Prop where
  below : Below w.heap.size w u
  ge : w.heap.size ≤ g
  map : ∃ D : DataW Unit, u.ownsMap Try.prog 26 (plainElem Try.prog 9) g k D ∧ Seen F L D
theorem ClI.stable {F : Dg → Dg} {w u u' : World} {g k : Nat} {L : List Dg} (h : ClI F w g L k u) (hb : Below u.heap.size u u') : ClI F w g L k u' := by
  obtain ⟨h1, h2, D, h3, h4⟩ := h
  exact ⟨h1.trans (hb.mono h1.size), h2, D, ownsMap_below h3 hb, h4⟩
theorem zero_string (w : World) : (zeroValue 9).run Try.prog w = .ok (.string ⟨#[]⟩) w := by kernel_rfl
def ClashPost (F : Dg → Dg) (w : World) (T : List Dg) (e : Ending) (w' : World) : Prop := ∃ b, e = .returned (.bool b) ∧ (b = false → Clear F T) ∧ Below w.heap.size w w'
section
variable {F : List UInt8 → List UInt8} (HF : Dig F)
include HF
set_option maxRecDepth 100000 in
set_option maxHeartbeats 2000000 in
theorem clash_any (w : World) (A : Option Addr) (m c : Nat) (us : List Value) (T : List Dg) (hr : RV w A m us) (hc : m ≤ c) (hcm : c ≤ maxLen) (hl : us.length = T.length) (hE : ∀ (k : Nat) u x, us[k]? = some u → T[k]? = some x → SB w u x) (h65 : ∀ t ∈ T, t.length ≤ 1000000) (hm : m ≤ 1000000) :
    Calls Try.prog 93 #[.slice A m c] w (ClashPost F w T) := by
  have hum := hr.len
  have hmm := @run_makeMap Try.prog
  have hF32 := HF.len
  have HF32 := Lib.hid hF32
  have HE := Lib.hid hE
  have H65 := Lib.hid h65
  have HL := Lib.hid (And.intro hl hum)
  clear hl hum hE h65 hF32
  go_enter Try.func93, Try.ntmps93
  go_wp2_with fail
  have h0 : Hid (ClI F w w.heap.size (T.take 0) 0 (w.alloc (.map #[] 0))) := Lib.hid ⟨(Below.refl _ _).alloc (Nat.le_refl _) _, Nat.le_refl _, _, World.ownsMap_made _ _ _ _, by simpa using Seen.nil F⟩
  go_loopw [12] (fun iv wr => ∃ k : Nat, k ≤ m ∧ iv = .int .i64 (k : Int) ∧ Hid (ClI F w w.heap.size (T.take k) k wr)) (fun iv _ => m - (intOf iv).toNat)
  case atStart => exact ⟨0, Nat.zero_le _, rfl, h0⟩
  case round =>
    obtain ⟨k, hk, rfl, hq⟩ := hrel
    by_cases hkl : k < m
    · have hI := hq.out
      have hrr := hr.below hI.below
      obtain ⟨b, o, u, rfl, hu, hcell⟩ := hrr.at_ hkl
      have hTk : k < T.length := by rw [← HL.out.1, HL.out.2]; exact hkl
      obtain ⟨t, ht⟩ : ∃ t, T[k]? = some t := ⟨_, List.getElem?_eq_getElem hTk⟩
      obtain ⟨At, nt, ct, rfl, hnt, hct, hrt⟩ := (HE.out k u t hu ht).below hI.below
      have ht6 := H65.out t (List.mem_of_getElem? ht)
      have hntl : nt ≤ 70368744177664 := by have := hrt.len; omega
      obtain ⟨d, hd⟩ : ∃ d, d = F t := ⟨_, rfl⟩
      have hd32 : d.length = 32 := by rw [hd]; exact HF32.out t
      have hS := HF.ref wr At nt ct t hrt hntl
      rw [← hd] at hS
      have hi := info_of d hd32
      have hi' := info_of' d hd32
      have hkey := kd_of d hd32
      have HI := Lib.hid hI
      have Ht := Lib.hid ht
      have Hd := Lib.hid hd
      have Hd32 := Lib.hid hd32
      have Hrt := Lib.hid hrt
      have HS := Lib.hid hS
      have Hkey := Lib.hid hkey
      clear hI hrr hu hTk ht ht6 hd hd32 hS hkey hrt hq h0
      obtain ⟨wo, rfl⟩ : ∃ wo : World, wo = wr := ⟨_, rfl⟩
      go_wp2_with fail
      refine HS.out.mono ?_
      rintro e w5 ⟨rfl, hb5⟩
      have H5 := Lib.hid (HI.out.stable hb5)
      have Hrt5 := Lib.hid (RV.below Hrt.out hb5)
      clear hb5 hcell
      obtain ⟨D, hDm, hDs⟩ := H5.out.map
      have HD := Lib.hid hDs
      have HDm := Lib.hid hDm
      clear hDm hDs
      obtain ⟨hb, hhb⟩ : ∃ hb, Maps.has D (kd d) = hb := ⟨_, rfl⟩
      have Hhb := Lib.hid hhb
      clear hhb
      have HV : Hid (plainElem (H := Unit) Try.prog 9 (.string (strOf t)) = some (.lit (.string t), [])) := Lib.hid (by
        have h := plainElem_string (H := Unit) (P := Try.prog) Try.underlying9 (s := strOf t) (by have := H65.out t (List.mem_of_getElem? Ht.out); unfold maxLen; simp [strOf, ByteArray.size]; omega)
        simpa [strOf] using h)
      cases hb with
      | false =>
        go_wp2_with (first
          | ((with_reducible show wpList _ _ _ (⟨_, Op.store 26 (.tmp 6) _, _, _, _, _⟩ :: _) _ _); refine wpList_store_row rfl _ _ _ rfl w5.heap.size 0 (d.map B8).toArray rfl rfl (there_new' _ _ _ (by simp [Hd32.out])) hi' (b8_all d) ?_; intro w8 hg8 hs8 ht8 hth8; rw [List.toList_toArray] at ht8; have hb8 : Below w5.heap.size w5 w8 := ((Below.refl _ _).alloc (Nat.le_refl _) _).grown hg8 (by simp) (by intro k hk; cases hk; exact Nat.le_refl _); have H8 := Lib.hid (And.intro (H5.out.stable hb8) (ownsMap_below HDm.out hb8)); have hconv := run_string_of (P := Try.prog) w8 22 9 5 Try.underlying22 Try.underlying5 Try.underlying9 At nt ct t (RV.below Hrt5.out hb8); clear hg8 hs8 hth8 hb8)
          | ((with_reducible show wpList _ _ _ (⟨_, Op.load 26 (.tmp 6), _, _, _, _⟩ :: _) _ _); refine wpList_load_mid rfl _ _ rfl w5.heap.size 0 rfl (d.map B8) _ ht8 Try.underlying26 rfl hi ?_; simp only [Act.put, List.setIfInBounds_toArray, List.set_cons_zero, List.set_cons_succ])
          | (at_lookup; refine wpList_lookup_own_ok_string _ rfl _ _ 46 rfl 26 9 sumKeyed Try.underlying46 Try.underlying9 (zero_string _) w.heap.size k D rfl H8.out.2 _ _ rfl Hkey.out ?_; intro cc hat; rw [Hhb.out]; have Hat := Lib.hid hat; clear hat)
          | (at_mapUpdate; refine wpList_mapUpdate_own _ rfl _ _ _ 46 rfl 26 9 sumKeyed Try.underlying46 _ w.heap.size k D rfl H8.out.2 (by unfold maxLen; omega) _ _ _ rfl rfl Hkey.out (.lit (.string t)) [] (HV.out) ?_; intro w10 hown10 hgr10))
        have hN : Hid (ClI F w w.heap.size (T.take (k + 1)) (k + 1) w10) := Lib.hid ⟨H8.out.1.below.grown hgr10 H8.out.1.below.size (by intro j e; cases e; exact Nat.le_refl _), Nat.le_refl _, _, hown10, by
          rw [take_snoc Ht.out, Hd.out]
          exact HD.out.snoc HF32.out (fun h => by rw [← Hd.out, Hhb.out] at h; cases h)⟩
        clear hown10 hgr10
        go_roundw
        case rel => exact ⟨k + 1, hkl, by go_num, hN⟩
        case measure => simp [intOf]; omega
      | true =>
        go_wp2_with (first
          | ((with_reducible show wpList _ _ _ (⟨_, Op.store 26 (.tmp 6) _, _, _, _, _⟩ :: _) _ _); refine wpList_store_row rfl _ _ _ rfl w5.heap.size 0 (d.map B8).toArray rfl rfl (there_new' _ _ _ (by simp [Hd32.out])) hi' (b8_all d) ?_; intro w8 hg8 hs8 ht8 hth8; rw [List.toList_toArray] at ht8; have hb8 : Below w5.heap.size w5 w8 := ((Below.refl _ _).alloc (Nat.le_refl _) _).grown hg8 (by simp) (by intro k hk; cases hk; exact Nat.le_refl _); have H8 := Lib.hid (And.intro (H5.out.stable hb8) (ownsMap_below HDm.out hb8)); have hconv := run_string_of (P := Try.prog) w8 22 9 5 Try.underlying22 Try.underlying5 Try.underlying9 At nt ct t (RV.below Hrt5.out hb8); clear hg8 hs8 hth8 hb8)
          | ((with_reducible show wpList _ _ _ (⟨_, Op.load 26 (.tmp 6), _, _, _, _⟩ :: _) _ _); refine wpList_load_mid rfl _ _ rfl w5.heap.size 0 rfl (d.map B8) _ ht8 Try.underlying26 rfl hi ?_; simp only [Act.put, List.setIfInBounds_toArray, List.set_cons_zero, List.set_cons_succ])
          | (at_lookup; refine wpList_lookup_own_ok_string _ rfl _ _ 46 rfl 26 9 sumKeyed Try.underlying46 Try.underlying9 (zero_string _) w.heap.size k D rfl H8.out.2 _ _ rfl Hkey.out ?_; intro cc hat; rw [Hhb.out]; have Hat := Lib.hid hat; clear hat)
          | (at_mapUpdate; refine wpList_mapUpdate_own _ rfl _ _ _ 46 rfl 26 9 sumKeyed Try.underlying46 _ w.heap.size k D rfl H8.out.2 (by unfold maxLen; omega) _ _ _ rfl rfl Hkey.out (.lit (.string t)) [] (HV.out) ?_; intro w10 hown10 hgr10))
        · go_ret
          exact ⟨true, rfl, (fun h => by cases h), H8.out.1.below⟩
        · have hct : (!cc.toList == (strOf t).toList) = false := by assumption
          have hN : Hid (ClI F w w.heap.size (T.take (k + 1)) (k + 1) w10) := Lib.hid ⟨H8.out.1.below.grown hgr10 H8.out.1.below.size (by intro j e; cases e; exact Nat.le_refl _), Nat.le_refl _, _, hown10, by
            have e1 : cc.data.toList = t := by
              rw [strOf_toList, ByteArray.toList_eq] at hct
              simpa using hct
            rw [take_snoc Ht.out, Hd.out]
            exact HD.out.snoc HF32.out (fun h => by rw [← Hd.out, Hat.out, e1])⟩
          clear hown10 hgr10 hct
          go_roundw
          case rel => exact ⟨k + 1, hkl, by go_num, hN⟩
          case measure => simp [intOf]; omega
    · obtain rfl : k = m := by omega
      have hI := hq.out
      rw [List.take_of_length_le (by rw [← HL.out.1, HL.out.2]; exact Nat.le_refl _)] at hI
      obtain ⟨hb, -, D, -, hS⟩ := hI
      have hcl := Lib.hid hS.clear
      clear hq hS h0
      go_wp2_with fail
      go_ret
      exact ⟨false, rfl, fun _ => hcl.out, hb⟩
end
end Go.Proofs.Ytkcmacglomdfcaa
