/- The check of chapter 2 as plain arithmetic on numbers: one digit, eight digits, a byte, a row of bytes. -/
import Derived.Test.YtnbnghihmophpaaL0
namespace Go.Proofs.Ytnbnghihmophpaa
namespace Crc
def dg (c : Nat) : Nat := if c % 2 = 1 then (c / 2) ^^^ 3988292384 else c / 2
def it : Nat → Nat → Nat
  | 0, c => c
  | n + 1, c => dg (it n c)
def step (c b : Nat) : Nat := it 8 (c ^^^ b)
def run (c : Nat) (xs : List UInt8) : Nat := xs.foldl (fun c x => step c x.toNat) c
/-- The check of any bytes whose check is c, with xs behind them. -/
def upd (c : Nat) (xs : List UInt8) : Nat := 4294967295 - run (4294967295 - c) xs
def sum (xs : List UInt8) : Nat := upd 0 xs
theorem xor_lt {a b : Nat} (ha : a < 4294967296) (hb : b < 4294967296) : a ^^^ b < 4294967296 := Nat.xor_lt_two_pow (n := 32) (by omega) (by omega)
theorem dg_lt (c : Nat) (h : c < 4294967296) : dg c < 4294967296 := by
  unfold dg; split
  · exact xor_lt (by omega) (by omega)
  · omega
theorem it_lt (n c : Nat) (h : c < 4294967296) : it n c < 4294967296 := by
  induction n with
  | zero => exact h
  | succ n ih => exact dg_lt _ ih
theorem step_lt (c b : Nat) (h : c < 4294967296) (hb : b < 256) : step c b < 4294967296 := it_lt _ _ (xor_lt h (by omega))
theorem run_lt (c : Nat) (xs : List UInt8) (h : c < 4294967296) : run c xs < 4294967296 := by
  induction xs generalizing c with
  | nil => exact h
  | cons x xs ih => exact ih _ (step_lt _ _ h x.toNat_lt)
theorem run_snoc (c : Nat) (xs : List UInt8) (k : Nat) (h : k < xs.length) : run c (xs.take (k + 1)) = step (run c (xs.take k)) xs[k].toNat := by
  rw [List.take_succ_eq_append_getElem h, run, List.foldl_append]; rfl
theorem run_append (c : Nat) (xs ys : List UInt8) : run c (xs ++ ys) = run (run c xs) ys := by rw [run, List.foldl_append]; rfl
theorem upd_lt (c : Nat) (xs : List UInt8) : upd c xs < 4294967296 := by unfold upd; omega
theorem sum_lt (xs : List UInt8) : sum xs < 4294967296 := upd_lt 0 xs

/-! ### It is linear -/
theorem xor_half (a b : Nat) : (a ^^^ b) / 2 = a / 2 ^^^ b / 2 := by
  apply Nat.eq_of_testBit_eq; intro i; simp [Nat.testBit_div_two, Nat.testBit_xor]
theorem xor_odd (a b : Nat) : (a ^^^ b) % 2 = (a % 2 + b % 2) % 2 := by
  have h := Nat.testBit_xor (x := a) (y := b) (i := 0)
  simp only [Nat.testBit_zero] at h
  rcases Nat.mod_two_eq_zero_or_one a with ha | ha <;> rcases Nat.mod_two_eq_zero_or_one b with hb | hb <;>
    rcases Nat.mod_two_eq_zero_or_one (a ^^^ b) with hc | hc <;> simp_all
theorem dg_xor (a b : Nat) : dg (a ^^^ b) = dg a ^^^ dg b := by
  have ho := xor_odd a b
  unfold dg
  rw [xor_half]
  generalize (3988292384 : Nat) = p
  rcases Nat.mod_two_eq_zero_or_one a with ha | ha <;> rcases Nat.mod_two_eq_zero_or_one b with hb | hb <;> rw [ha, hb] at ho <;> simp only [ha, hb, ho] <;> simp
  · rw [Nat.xor_assoc]
  · rw [Nat.xor_assoc, Nat.xor_comm (b / 2), ← Nat.xor_assoc]
  · rw [Nat.xor_assoc, Nat.xor_comm (b / 2), ← Nat.xor_assoc p, Nat.xor_self, Nat.zero_xor]
theorem it_xor (n a b : Nat) : it n (a ^^^ b) = it n a ^^^ it n b := by
  induction n with
  | zero => rfl
  | succ n ih => simp only [it]; rw [ih, dg_xor]
theorem it_zero (n : Nat) : it n 0 = 0 := by
  induction n with
  | zero => rfl
  | succ n ih => simp only [it]; rw [ih]; rfl
theorem it_add (m n c : Nat) : it (m + n) c = it m (it n c) := by
  induction m with
  | zero => simp [it]
  | succ m ih => rw [show m + 1 + n = (m + n) + 1 from by omega]; simp only [it]; rw [ih]
/-- Low noughts fall out. -/
theorem it_shift (n y : Nat) : it n (y * 2 ^ n) = y := by
  induction n generalizing y with
  | zero => simp [it]
  | succ n ih =>
    rw [show n + 1 = 1 + n from by omega, it_add, show y * 2 ^ (1 + n) = (y * 2) * 2 ^ n from by rw [Nat.pow_add, Nat.mul_assoc], ih]
    show dg (y * 2) = y
    unfold dg
    rw [if_neg (by omega)]; omega
theorem it8_shift (y : Nat) : it 8 (y * 256) = y := it_shift 8 y
theorem split256 (c : Nat) : c = (c % 256) ^^^ (c / 256 * 256) := by
  have h := Nat.xor_self 0
  apply Nat.eq_of_testBit_eq; intro i
  rw [Nat.testBit_xor, show (256 : Nat) = 2 ^ 8 from rfl, Nat.testBit_mod_two_pow, Nat.testBit_mul_two_pow, Nat.testBit_div_two_pow]
  by_cases hi : i < 8
  · simp [hi, show ¬ 8 ≤ i from by omega]
  · have : 8 ≤ i := by omega
    simp [hi, this]
theorem flip32 (c : Nat) (h : c < 4294967296) : 4294967295 ^^^ c = 4294967295 - c := by
  apply Nat.eq_of_testBit_eq; intro i
  have h1 := Nat.testBit_two_pow_sub_succ (n := 32) (x := c) (by omega) i
  have h2 := Nat.testBit_two_pow_sub_succ (n := 32) (x := 0) (by omega) i
  rw [show 2 ^ 32 - (c + 1) = 4294967295 - c from by omega] at h1
  rw [show 2 ^ 32 - (0 + 1) = 4294967295 from by omega] at h2
  rw [Nat.testBit_xor, h1, h2]
  by_cases hi : i < 32
  · simp [hi]
  · have : c.testBit i = false := Nat.testBit_lt_two_pow (Nat.lt_of_lt_of_le (show c < 2 ^ 32 from by omega) (Nat.pow_le_pow_right (by omega) (by omega)))
    simp [hi, this]
/-- The table's way: a byte's row, and the rest. -/
theorem step_table (c b : Nat) : step c b = it 8 ((c % 256) ^^^ b) ^^^ (c / 256) := by
  unfold step
  conv => lhs; rw [split256 c]
  rw [Nat.xor_assoc, Nat.xor_comm (c / 256 * 256), ← Nat.xor_assoc, it_xor, it8_shift]
end Crc
end Go.Proofs.Ytnbnghihmophpaa
