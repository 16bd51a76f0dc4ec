/-
  'cachetlaw07.FrameFinds' is true for every input, and leaves its arguments as they were. No condition.
-/
import Derived.Test.YtdmiiageihbokaaRows
import Derived.Test.YtdmiiageihbokaaFrF
import Derived.Test.YtdmiiageihbokaaOpen
import Derived.ShutString
import Derived.ChangeOld
import Derived.Lib.SmallJoins
namespace Go.Proofs.Ytdmiiageihbokaa.frameFinds
open Go.Joins Go.ChangeShapes Go.WideShapes Go.ChangeAt Go.RowKit Go.Deep
set_option linter.unusedVariables false

theorem own : ownKnob Try.prog.godebug = none := by kernel_rfl
theorem laidOut : laidOutB Try.prog = true := by kernel_rfl

theorem open_spoilt {H : Type} {enc : TypeId × Value → H} {w : World} {base b0 : Nat} {held : Bool} {r : Reach} {v : Value} {d : DataW H} {p : List MemPlace} (hv : Value.okWide Try.prog w r b0 60 v)
    (h : DataW.Trod enc Try.prog w base (fun _ => true) held 60 v d p) :
    ∃ (v0 v1 v2 : Value) (x y : Int) (a b c : List UInt8), v = .agg #[v0, v1, v2, .int .i64 x, .int .u8 y] ∧ SB w v0 a ∧ SB w v1 b ∧ SB w v2 c ∧ (Lit.int .u8 y).wf = true := by
  obtain ⟨cs, rfl, hsz⟩ := okWide_struct Try.underlying60 hv
  obtain ⟨l⟩ := cs
  match l, hsz.trans (show Try.prog.cellsOf 60 = 5 by kernel_rfl) with
  | [c0, c1, c2, c3, c4], _ =>
    obtain ⟨fuel, hf⟩ := h
    obtain ⟨xs, n, _, _, _, hlen, hg⟩ := DataW.trod_struct Try.underlying60 hf
    match xs, hlen with
    | [x0, x1, x2, x3, x4], _ =>
      have kb : Try.prog.cellsOf 22 = 1 := by kernel_rfl
      have ki : Try.prog.cellsOf 3 = 1 := by kernel_rfl
      have ku : Try.prog.cellsOf 5 = 1 := by kernel_rfl
      have g0 : DataW.trod enc Try.prog w base (fun _ => true) held n 22 [c0] = some x0 := by simpa [Value.cells, kb] using hg 0 _ rfl
      have g1 : DataW.trod enc Try.prog w base (fun _ => true) held n 22 [c1] = some x1 := by simpa [Value.cells, kb] using hg 1 _ rfl
      have g2 : DataW.trod enc Try.prog w base (fun _ => true) held n 22 [c2] = some x2 := by simpa [Value.cells, kb] using hg 2 _ rfl
      have g3 : DataW.trod enc Try.prog w base (fun _ => true) held n 3 [c3] = some x3 := by simpa [Value.cells, ki] using hg 3 _ rfl
      have g4 : DataW.trod enc Try.prog w base (fun _ => true) held n 5 [c4] = some x4 := by simpa [Value.cells, ku] using hg 4 _ rfl
      obtain ⟨v0, a, e0, sa, _⟩ := trod_sb Try.underlying22 Try.underlying5 (by kernel_rfl) g0
      obtain ⟨v1, b, e1, sb, _⟩ := trod_sb Try.underlying22 Try.underlying5 (by kernel_rfl) g1
      obtain ⟨v2, c, e2, sc, _⟩ := trod_sb Try.underlying22 Try.underlying5 (by kernel_rfl) g2
      obtain ⟨x, e3, _, _⟩ := DataW.trod_int Try.underlying3 g3
      obtain ⟨y, e4, _, hy⟩ := DataW.trod_int Try.underlying5 g4
      simp at e0 e1 e2 e3 e4
      subst e0 e1 e2 e3 e4
      exact ⟨_, _, _, x, y, a, b, c, rfl, sa, sb, sc, hy⟩

set_option maxRecDepth 100000 in
theorem lifted (os : Os) (started : os.Started) (H : Type) (enc : TypeId × Value → H) :
    ReturnsInHanded {} Try.checked os 11 .any (Rows.frameFindsSpec.pre6 enc Try.prog Try.f11 Rows.frameFindsRow.domain false) (Rows.frameFindsSpec.post enc Try.prog Try.f11 false true false false) := by
  refine returnsInHanded_of_change (C := Try.checked) own started (by kernel_rfl) Try.func11
    (ChangeSpec.witness6 (enc := enc) (C := Try.checked) false ⟨#[], #[.agg #[.slice none 0 0, .slice none 0 0, .slice none 0 0, .int .i64 0, .int .u8 0]], []⟩ 8 (by kernel_rfl) (by kernel_rfl) (by kernel_rfl) (by kernel_rfl)) ?_
  intro W base args ds gs before hval0 hW hcnd _
  have hval : ∀ (j : Nat) t v, Try.f11.params[j]? = some t → args[j]? = some v → Value.okWide Try.prog W .any base t v := hval0
  have hW' := hW
  obtain ⟨p, q, hA0, hV, rfl, hfz, hnd⟩ := hW
  have hA : DataW.TrodAll enc Try.prog W 0 (fun _ => true) true Try.f11.params.toList args.toList ds p := hA0
  rw [Try.params11] at hA hval
  obtain ⟨v0, vs0, d0, ds0, p0, q0, hargs, rfl, rfl, h0, r0⟩ := trodAll_cons hA
  obtain ⟨rfl, rfl, rfl⟩ := trodAll_nil r0
  obtain rfl : args = #[v0] := by cases args; simp_all
  obtain ⟨rfl, rfl⟩ := trodVars_none hV
  have k0 := h0
  have lt0 : ∀ x ∈ p0, x.block < W.heap.size := by obtain ⟨m, hm⟩ := k0; exact DataW.trod_lt m _ _ _ hm
  obtain ⟨u0, u1, u2, x, y, a, b, c, rfl, sa, sb, sc, hy⟩ := open_spoilt (hval 0 60 v0 rfl rfl) h0
  clear hA0 hval0
  refine (frameFinds_law W u0 u1 u2 a b c sa sb sc x y hy).mono fun e W' ⟨he, bel⟩ => ?_
  subst he
  exact ⟨_, rfl, _, _, _, [], _, [], hW', trodAll_mk1 (shut_bool Try.underlying4 _), (trodAll_cons_mk (Below.trod laidOut (by kernel_rfl) (of_decide_eq_true (by kernel_rfl)) k0 bel lt0) trodAll_mk0), rfl, bel.frame _, fun h => by cases h⟩

theorem proved : Rows.FrameFindsSaid :=
  OpenClaim.holds_of_wide 11 Try.f11 rfl rfl rfl rfl rfl rfl rfl ⟨rfl, rfl, rfl, rfl, rfl⟩ rfl rfl rfl rfl rfl (by kernel_rfl) Try.func11 (by kernel_rfl)
    (of_decide_eq_true (by kernel_rfl)) (by unfold Func.isWrapper; first | (rw [if_pos (by decide +kernel)]; kernel_rfl) | (rw [if_neg (by decide +kernel)]; exact ⟨rfl, rfl⟩))
    (fun os started H enc _ => lifted os started H enc)
#print axioms proved
end Go.Proofs.Ytdmiiageihbokaa.frameFinds
