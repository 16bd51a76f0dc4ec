/-
  THE WALK of Compact at posts.
-/
import Derived.Test.YtkfpnilbjjkhgaaRnC
namespace Go.Proofs.Ytkfpnilbjjkhgaa
open Go.RowKit Go.Lib Go.Sort

theorem own_setCell_at {u : World} {B s vb m cV k : Nat} {e : TypeId} {us : List Value} {x : Value} (h : u.ownsRow B e s (.slice (some ⟨vb, 0, none⟩) m cV) m us) : (u.setCell ⟨vb, k, none⟩ x).ownsRow B e s (.slice (some ⟨vb, 0, none⟩) m cV) m (us.set k x) := by
  refine ⟨by rw [List.length_set]; exact h.1, ?_⟩
  rcases h.2 with ⟨h1, _⟩ | ⟨g, cap, cur, h1, hB, hh, hnc, hcm, hsz, htake⟩
  · cases h1
  · injection h1 with e1 _ e3
    injection e1 with e1
    injection e1 with e1
    subst e1
    subst e3
    refine .inr ⟨vb, cV, cur.setIfInBounds k x, rfl, hB, heap_setCell_eq hh k x, hnc, hcm, by simpa using hsz, ?_⟩
    rw [Array.toList_setIfInBounds, List.take_set, htake]
theorem set_ge {α : Type} {l : List α} {k : Nat} {x : α} (h : l.length ≤ k) : l.set k x = l := List.set_eq_of_length_le h
theorem own_behind {B s g n c : Nat} {e : TypeId} {xs : List Value} : ∀ (vs : List Value) (u : World) (o : Nat), u.ownsRow B e s (.slice (some ⟨g, 0, none⟩) n c) n xs → n * s ≤ o → (u.setCells g o vs).ownsRow B e s (.slice (some ⟨g, 0, none⟩) n c) n xs
  | [], u, o, h, _ => h
  | v :: vs, u, o, h, ho => by
    have h1 := own_setCell_at (k := o) (x := v) h
    rw [set_ge (by rw [h.1]; exact ho)] at h1
    exact own_behind vs _ (o + 1) h1 (by omega)
theorem flatP_set : ∀ (rs : List Po) (i : Nat) (x : Po), flatP (rs.set i x) = ((flatP rs).set (i * 2) (.string ⟨x.1.toArray⟩)).set (i * 2 + 1) (.int .i64 x.2)
  | [], i, x => rfl
  | p :: r, 0, x => rfl
  | p :: r, i + 1, x => by
    rw [List.set_cons_succ, show flatP (p :: r.set i x) = encP p ++ flatP (r.set i x) from rfl, flatP_set r i x, show flatP (p :: r) = encP p ++ flatP r from rfl]
    rw [show (i + 1) * 2 = i * 2 + 2 by omega, show i * 2 + 2 + 1 = i * 2 + 1 + 2 by omega]
    rfl
theorem own_setPost {u : World} {B g m c i : Nat} {e : TypeId} {rs : List Po} {x : Po} (h : u.ownsRow B e 2 (.slice (some ⟨g, 0, none⟩) m c) m (flatP rs)) : (u.setCells g (i * 2) (encP x)).ownsRow B e 2 (.slice (some ⟨g, 0, none⟩) m c) m (flatP (rs.set i x)) := by
  rw [flatP_set]
  exact own_setCell_at (own_setCell_at h)
theorem own_there {u : World} {B s g n c : Nat} {e : TypeId} {xs : List Value} (h : u.ownsRow B e s (.slice (some ⟨g, 0, none⟩) n c) n xs) : u.there g 0 (n * s) := by
  rcases h.2 with ⟨h1, _⟩ | ⟨g', cap, cur, h1, hB, hh, hnc, hcm, hsz, htake⟩
  · cases h1
  · cases h1
    exact there_blk hh (by rw [hsz]; exact Nat.mul_le_mul_right _ hnc)
theorem there_part {u : World} {b n o m : Nat} (h : u.there b 0 n) (ho : o + m ≤ n) : u.there b o m := fun j hj => by
  have := h (o + j) (by omega)
  rwa [Nat.zero_add] at this
theorem own_cut {u : World} {B s g n c k : Nat} {e : TypeId} {xs : List Value} (h : u.ownsRow B e s (.slice (some ⟨g, 0, none⟩) n c) n xs) (hk : k ≤ n) : u.ownsRow B e s (.slice (some ⟨g, 0, none⟩) k c) k (xs.take (k * s)) := by
  have hl := h.1
  have hks : k * s ≤ n * s := Nat.mul_le_mul_right _ hk
  refine ⟨by rw [List.length_take]; omega, ?_⟩
  rcases h.2 with ⟨h1, _⟩ | ⟨g', cap, cur, h1, hB, hh, hnc, hcm, hsz, htake⟩
  · cases h1
  · cases h1
    exact .inr ⟨g, c, cur, rfl, hB, hh, Nat.le_trans hk hnc, hcm, hsz, by rw [← htake, List.take_take, Nat.min_eq_left hks]⟩
theorem flatP_take : ∀ (rs : List Po) (k : Nat), (flatP rs).take (k * 2) = flatP (rs.take k)
  | rs, 0 => by simp [flatP]
  | [], k + 1 => by simp [flatP]
  | p :: r, k + 1 => by
    rw [show flatP (p :: r) = .string ⟨p.1.toArray⟩ :: .int .i64 p.2 :: flatP r from rfl, show (k + 1) * 2 = k * 2 + 1 + 1 by omega, List.take_succ_cons, List.take_succ_cons, flatP_take r k, List.take_succ_cons]
    rfl
theorem compF_snoc : ∀ (l : List Po) (x : Po), compF (l ++ [x]) = if l.getLast? = some x then compF l else compF l ++ [x]
  | [], x => by simp [compF]
  | [y], x => by
    show compF [y, x] = _
    rw [compF]
    by_cases h : y = x
    · subst h; simp [compF]
    · simp [compF, h]
  | y :: z :: r, x => by
    have ih := compF_snoc (z :: r) x
    have e : (y :: z :: r) ++ [x] = y :: z :: (r ++ [x]) := rfl
    have e2 : z :: (r ++ [x]) = (z :: r) ++ [x] := rfl
    have hl : (y :: z :: r).getLast? = (z :: r).getLast? := List.getLast?_cons_cons
    rw [e, compF, e2, ih, hl, compF]
    by_cases h : y = z
    · rw [if_pos h, if_pos h]
    · rw [if_neg h, if_neg h]
      split <;> simp
theorem take_last {ls : List Po} {i : Nat} {p : Po} (h : ls[i]? = some p) : (ls.take (i + 1)).getLast? = some p := by
  rw [take_snoc h]; simp
theorem compF_step {ls : List Po} {i : Nat} {p q : Po} (hp : ls[i]? = some p) (hq : ls[i + 1]? = some q) : compF (ls.take (i + 2)) = if p = q then compF (ls.take (i + 1)) else compF (ls.take (i + 1)) ++ [q] := by
  rw [take_snoc hq, compF_snoc, take_last hp]
  simp
set_option maxRecDepth 100000 in
theorem eql_post (p q : Po) (w : World) : (binOp .eql 31 (.agg (encP p).toArray) (.agg (encP q).toArray)).run Try.prog w = .ok (.bool (decide (p = q))) w := by
  have hS : Try.prog.underlying 31 = some (.struct (Try.prog.fieldsOf 31)) := by kernel_rfl
  have hp : Try.prog.stoodInHeld 31 = false := by kernel_rfl
  simp only [encP]
  rw [run_eql_struct, show (10000 : Nat) = 9999 + 1 from rfl, run_equalIn_agg w 9999 31 _ _ hS hp]
  simp only [Program.fieldsOf, Try.underlying31]
  go_simp
  obtain ⟨p1, p2⟩ := p
  obtain ⟨q1, q2⟩ := q
  by_cases h1 : p1 = q1 <;> by_cases h2 : p2 = q2 <;> simp [h1, h2]
theorem neq_of_eql (r : Result Bool) (b : Bool) (w : World) (h : r.andThen (fun b w' => Result.ok (Value.bool b) w') = .ok (.bool b) w) : r.andThen (fun b w' => Result.ok (Value.bool (!b)) w') = .ok (.bool (!b)) w := by
  cases r with
  | ok b' w' =>
    simp only [Result.andThen] at h ⊢
    injection h with h1 h2
    injection h1 with h1
    rw [h1, h2]
  | halt a b => simp [Result.andThen] at h
theorem neq_post (p q : Po) (w : World) : (binOp .neq 31 (.agg (encP p).toArray) (.agg (encP q).toArray)).run Try.prog w = .ok (.bool (!decide (p = q))) w := by
  have h := eql_post p q w
  rw [run_eql_struct] at h
  rw [run_neq_struct]
  exact neq_of_eql _ _ _ h
theorem clear_posts (w : World) (b o n c : Nat) (hn : 0 < n) (ht : w.there b o (n * 2)) : ∃ zs : List Value, ∀ ty : TypeId, (Builtin.clear_ #[25] ty #[.slice (some ⟨b, o, none⟩) n c]).run Try.prog w = .ok (.tuple #[]) (w.setCells b o zs) := by
  have hv := Try.zeroValue31
  have hl : (Builtin.zeroCells #[.string ⟨#[]⟩, .int .i64 0] n).toList.length = n * 2 := by simp [Builtin.zeroCells]
  refine ⟨(Builtin.zeroCells #[.string ⟨#[]⟩, .int .i64 0] n).toList, fun ty => ?_⟩
  have hst := run_storeCells_cells (P := Try.prog) b o (Builtin.zeroCells #[.string ⟨#[]⟩, .int .i64 0] n).toList 0 w (fun j hj => by rw [hl] at hj; simpa using (ht j hj).1) (fun j hj => by rw [hl] at hj; simpa using (ht j hj).2) (by
    intro v hv'
    simp [Builtin.zeroCells] at hv'
    obtain ⟨i, hi, rfl⟩ := hv'
    rcases Nat.mod_two_eq_zero_or_one i with h | h <;> rw [h] <;> rfl)
  simp only [Nat.add_zero] at hst
  obtain ⟨m, rfl⟩ : ∃ m, n = m + 1 := ⟨n - 1, by omega⟩
  simp [Builtin.clear_, run_underlying Try.underlying25, hv, Value.cells, hst]
theorem exec_eql_post {o : Oper} {a : Act} {x y : Operand} {t2 : TypeId} (ho : o.op = .binOp .eql 31 x y t2) (p q : Po) (hx : a.eval x = .agg (encP p).toArray) (hy : a.eval y = .agg (encP q).toArray) (u : World) :
    (execOp a.eval o).run Try.prog u = .ok (.value (.bool (decide (p = q)))) u := by
  unfold execOp
  simp only [ho, hx, hy, Sem.run_bind, run_eqGuard_agg (hm := Try.eqGuardType31), Result.andThen_ok, eql_post, Sem.run_pure]
theorem exec_neq_post {o : Oper} {a : Act} {x y : Operand} {t2 : TypeId} (ho : o.op = .binOp .neq 31 x y t2) (p q : Po) (hx : a.eval x = .agg (encP p).toArray) (hy : a.eval y = .agg (encP q).toArray) (u : World) :
    (execOp a.eval o).run Try.prog u = .ok (.value (.bool (!decide (p = q)))) u := by
  unfold execOp
  simp only [ho, hx, hy, Sem.run_bind, run_eqGuard_agg (hm := Try.eqGuardType31), Result.andThen_ok, neq_post, Sem.run_pure]
end Go.Proofs.Ytkfpnilbjjkhgaa
