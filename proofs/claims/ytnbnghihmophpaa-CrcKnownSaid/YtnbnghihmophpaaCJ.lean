/- Checks of rows that are joined, as plain arithmetic. -/
import Derived.Test.YtnbnghihmophpaaCM
namespace Go.Proofs.Ytnbnghihmophpaa
namespace Crc
theorem step_xor (a b y : Nat) : step (a ^^^ b) y = it 8 a ^^^ step b y := by
  unfold step; rw [Nat.xor_assoc, it_xor]
theorem run_xor (a b : Nat) (ys : List UInt8) : run (a ^^^ b) ys = it (8 * ys.length) a ^^^ run b ys := by
  induction ys generalizing a b with
  | nil => rfl
  | cons y ys ih =>
    show run (step (a ^^^ b) y.toNat) ys = _ ^^^ run (step b y.toNat) ys
    rw [step_xor, ih, List.length_cons, show 8 * (ys.length + 1) = 8 * ys.length + 8 from by omega, it_add]
/-- The check of bytes whose check is a, with n bytes behind them, whose check is b. -/
def join (a b n : Nat) : Nat := it (8 * n) a ^^^ b
theorem join_lt {a b : Nat} (n : Nat) (ha : a < 4294967296) (hb : b < 4294967296) : join a b n < 4294967296 := xor_lt (it_lt _ _ ha) hb
theorem sum_eq (xs : List UInt8) : sum xs = 4294967295 ^^^ run 4294967295 xs := by
  unfold sum upd; rw [flip32 _ (run_lt _ _ (by omega))]
theorem join_sum (xs ys : List UInt8) : join (sum xs) (sum ys) ys.length = sum (xs ++ ys) := by
  unfold join
  rw [sum_eq, sum_eq ys, sum_eq (xs ++ ys), run_append]
  have h1 : run (run 4294967295 xs) ys = it (8 * ys.length) (run 4294967295 xs) ^^^ run 0 ys := by
    have := run_xor (run 4294967295 xs) 0 ys
    rwa [Nat.xor_zero] at this
  have h2 : run 4294967295 ys = it (8 * ys.length) 4294967295 ^^^ run 0 ys := by
    have := run_xor 4294967295 0 ys
    rwa [Nat.xor_zero] at this
  rw [h1, h2, it_xor]
  generalize it (8 * ys.length) 4294967295 = p
  generalize it (8 * ys.length) (run 4294967295 xs) = q
  generalize run 0 ys = r
  generalize (4294967295 : Nat) = F
  rw [Nat.xor_comm p q, Nat.xor_assoc, ← Nat.xor_assoc p, Nat.xor_comm p F, Nat.xor_assoc F, ← Nat.xor_assoc p, Nat.xor_self, Nat.zero_xor, ← Nat.xor_assoc, Nat.xor_comm q F, Nat.xor_assoc]
theorem upd_sum (xs ys : List UInt8) : upd (sum xs) ys = sum (xs ++ ys) := by
  have h := run_lt 4294967295 xs (by omega)
  unfold upd
  rw [show 4294967295 - sum xs = run 4294967295 xs from by unfold sum upd; simp only [Nat.sub_zero]; omega, ← run_append]
  rfl
theorem join_join (a b c m n : Nat) : join (join a b m) c n = join a (join b c n) (m + n) := by
  unfold join
  rw [it_xor, show 8 * (m + n) = 8 * n + 8 * m from by omega, it_add, Nat.xor_assoc]
theorem it_one (c : Nat) : it 1 c = dg c := rfl
/-- One digit more. -/
theorem mod_next (c i : Nat) : c % 2 ^ (i + 1) = (c % 2 ^ i) ^^^ (if c / 2 ^ i % 2 = 1 then 2 ^ i else 0) := by
  apply Nat.eq_of_testBit_eq; intro j
  rw [Nat.testBit_mod_two_pow, Nat.testBit_xor, Nat.testBit_mod_two_pow]
  by_cases hb : c / 2 ^ i % 2 = 1
  · rw [if_pos hb, Nat.testBit_two_pow]
    by_cases hj : j = i
    · subst hj
      have : c.testBit j = true := by rw [Nat.testBit_eq_decide_div_mod_eq]; simpa using hb
      simp [this]
    · have h1 : decide (j < i + 1) = decide (j < i) := by rw [decide_eq_decide]; omega
      rw [h1, decide_eq_false (show ¬ i = j by omega)]; simp
  · rw [if_neg hb, Nat.zero_testBit]
    by_cases hj : j = i
    · subst hj
      have : c.testBit j = false := by rw [Nat.testBit_eq_decide_div_mod_eq]; simpa using hb
      simp [this]
    · have h1 : decide (j < i + 1) = decide (j < i) := by rw [decide_eq_decide]; omega
      rw [h1]; simp
theorem it_mod_next (k c i : Nat) : it k (c % 2 ^ (i + 1)) = if c / 2 ^ i % 2 = 1 then it k (c % 2 ^ i) ^^^ it k (2 ^ i) else it k (c % 2 ^ i) := by
  rw [mod_next]
  split
  · rw [it_xor]
  · rw [Nat.xor_zero]
end Crc
end Go.Proofs.Ytnbnghihmophpaa
