/-
  THE DIGESTS' CONSTANTS: fractions of the first primes' cube roots and square roots; the walks of sum.table, sum.roots.
-/
import Derived.Test.YtkcmacglomdfcaaSmF32
import Derived.Test.YtkcmacglomdfcaaSmF64
import Derived.Great.BuildSlice
namespace Go.Proofs.Ytkcmacglomdfcaa
open Go.RowKit

def cbrtB : Nat → Nat → Nat → Nat
  | 0, r, _ => r
  | b + 1, r, n => if (r + 2 ^ b) * (r + 2 ^ b) * (r + 2 ^ b) ≤ n then cbrtB b (r + 2 ^ b) n else cbrtB b r n
def sqrtB : Nat → Nat → Nat → Nat
  | 0, r, _ => r
  | b + 1, r, n => if (r + 2 ^ b) * (r + 2 ^ b) ≤ n then sqrtB b (r + 2 ^ b) n else sqrtB b r n
def primes80 : List Nat := [2, 3, 5, 7, 11, 13, 17, 19, 23, 29, 31, 37, 41, 43, 47, 53, 59, 61, 67, 71, 73, 79, 83, 89, 97, 101, 103, 107, 109, 113, 127, 131, 137, 139, 149, 151, 157, 163, 167, 173, 179, 181, 191, 193, 197, 199, 211, 223, 227, 229, 233, 239, 241, 251, 257, 263, 269, 271, 277, 281, 283, 293, 307, 311, 313, 317, 331, 337, 347, 349, 353, 359, 367, 373, 379, 383, 389, 397, 401, 409]
def frac3 (p : Nat) : Nat := cbrtB 68 0 (p * 2 ^ 192) % 18446744073709551616
def frac2 (p : Nat) : BitVec 64 := BitVec.ofNat 64 (sqrtB 68 0 (p * 2 ^ 128) % 18446744073709551616)
def K64 : List (BitVec 64) := primes80.map fun p => BitVec.ofNat 64 (frac3 p)
def K64z : List Int := primes80.map fun p => (frac3 p : Int)
theorem K64z_eq : K64z.map (Value.int .u64) = K64.map V64 := by
  unfold K64z K64
  rw [List.map_map, List.map_map]
  apply List.map_congr_left
  intro p _
  have h : frac3 p < 18446744073709551616 := Nat.mod_lt _ (by decide)
  simp only [Function.comp, V64, BitVec.toNat_ofNat]
  rw [Nat.mod_eq_of_lt h]
theorem K64_len : K64.length = 80 := by simp [K64, primes80]
def H64 : St64 := { a := frac2 2, b := frac2 3, c := frac2 5, d := frac2 7, e := frac2 11, f := frac2 13, g := frac2 17, h := frac2 19 }
def hi32 (x : BitVec 64) : BitVec 32 := (x >>> 32).setWidth 32
def K32 : List (BitVec 32) := (K64.take 64).map hi32
def H32 : St32 := { a := hi32 H64.a, b := hi32 H64.b, c := hi32 H64.c, d := hi32 H64.d, e := hi32 H64.e, f := hi32 H64.f, g := hi32 H64.g, h := hi32 H64.h }

set_option maxRecDepth 100000 in
theorem table_sum (w : World) : Calls Try.prog 75 #[] w fun e w' => e = .returned (.slice (some ⟨w.heap.size, 0, none⟩) 80 80) ∧ w.alloc (.cells (K64.map V64).toArray 107) = w' := by
  go_enter Try.func75, Try.ntmps75
  go_wp2_with ((with_reducible show wpList _ _ _ (⟨_, Op.buildSlice _ _ _, _, _, _, _⟩ :: _) _ _); refine wpList_buildFlat rfl 105 107 80 _ rfl .u64 K64z Try.underlying105 (by kernel_rfl) (by kernel_rfl) (by kernel_rfl) (by decide) (by decide) (by kernel_rfl) ?_)
  go_ret
  exact ⟨rfl, by rw [K64z_eq]⟩
theorem roots_eq : (cells64 H64).toArray = #[.int .u64 7640891576956012808, .int .u64 13503953896175478587, .int .u64 4354685564936845355, .int .u64 11912009170470909681, .int .u64 5840696475078001361, .int .u64 11170449401992604703, .int .u64 2270897969802886507, .int .u64 6620516959819538809] := by kernel_rfl
end Go.Proofs.Ytkcmacglomdfcaa
