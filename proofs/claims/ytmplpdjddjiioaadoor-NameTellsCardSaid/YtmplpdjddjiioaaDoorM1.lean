/-
  Numbers that wrap: plain laws.
-/
import Derived.Test.YtmplpdjddjiioaaDoorC3
namespace Go.Ab
abbrev i64 (n : Int) : D := .int .i64 n
def inR (n : Int) : Prop := -9223372036854775808 ≤ n ∧ n ≤ 9223372036854775807
def w64 (n : Int) : Int := IntKind.i64.wrap n
def u64 (n : Int) : Int := IntKind.u64.wrap n
theorem wrap_i64 (n : Int) : IntKind.i64.wrap n = w64 n := rfl
theorem wrap_u64 (n : Int) : IntKind.u64.wrap n = u64 n := rfl
theorem u64_def (n : Int) : u64 n = n % 18446744073709551616 := by simp [u64, IntKind.wrap, IntKind.bits, IntKind.signed]
theorem w64_def (n : Int) : w64 n = if n % 18446744073709551616 ≥ 9223372036854775808 then n % 18446744073709551616 - 18446744073709551616 else n % 18446744073709551616 := by
  simp [w64, IntKind.wrap, IntKind.bits, IntKind.signed]
theorem w64_in {n : Int} (h : inR n) : w64 n = n := by
  obtain ⟨h1, h2⟩ := h
  rw [w64_def]; split <;> omega
theorem in_w64 (n : Int) : inR (w64 n) := by
  rw [w64_def]; constructor <;> split <;> omega
theorem w64_mod {a b : Int} (h : a % 18446744073709551616 = b % 18446744073709551616) : w64 a = w64 b := by
  rw [w64_def, w64_def, h]
theorem w_u (n : Int) : w64 (u64 n) = w64 n := w64_mod (by rw [u64_def]; omega)
theorem w_u_add (a b : Int) : w64 (u64 (u64 a + u64 b)) = w64 (a + b) := w64_mod (by simp only [u64_def]; omega)
theorem w_u_sub (a b : Int) : w64 (u64 (u64 a - u64 b)) = w64 (a - b) := w64_mod (by simp only [u64_def]; omega)
theorem w_u_neg (q : Int) : w64 (u64 (0 - u64 q)) = w64 (-q) := w64_mod (by simp only [u64_def]; omega)
theorem w_u_mul (a b : Int) : w64 (u64 (u64 a * u64 b)) = w64 (a * b) := w64_mod (by
  simp only [u64_def]
  rw [Int.emod_emod_of_dvd _ (Int.dvd_refl _), ← Int.mul_emod])
theorem u64_nonneg {a : Int} (h : inR a) (h0 : ¬ a < 0) : u64 a = a := by obtain ⟨h1, h2⟩ := h; rw [u64_def]; omega
theorem u64_neg {a : Int} (h : inR a) (h0 : a < 0) : u64 (0 - u64 a) = -a := by obtain ⟨h1, h2⟩ := h; simp only [u64_def]; omega
def divZ (a b : Int) : Int := if b = 0 then 0 else w64 (a.tdiv b)
def divE (b : Int) : Int := if b = 0 then 9 else 0
end Go.Ab
