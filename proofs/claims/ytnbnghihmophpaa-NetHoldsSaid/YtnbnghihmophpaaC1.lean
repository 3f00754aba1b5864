/- Walks of chapter 2: one digit, the table, the check of a row of bytes; and the document's. -/
import Derived.Test.YtnbnghihmophpaaProg
import Derived.Test.YtnbnghihmophpaaCM
namespace Go.Proofs.Ytnbnghihmophpaa
open Go.RowKit
set_option maxRecDepth 20000
set_option maxHeartbeats 1000000
set_option linter.unusedVariables false
set_option linter.unusedSimpArgs false

theorem dg_odd (x : Nat) (hx : x < 4294967296) (h : ((x : Int) % 2 == 1) = true) : bits .xor .u32 ((x : Int) / 2) 3988292384 = ((Crc.dg x : Nat) : Int) := by
  have h' : (x : Int) % 2 = 1 := by simpa using h
  rw [show ((x : Int) / 2) = ((x / 2 : Nat) : Int) from by omega, show (3988292384 : Int) = ((3988292384 : Nat) : Int) from rfl, u32_xor_nat _ _ (by omega) (by omega), Crc.dg, if_pos (by omega)]
theorem dg_even (x : Nat) (h : ((x : Int) % 2 == 1) = false) : ((x : Int) / 2) = ((Crc.dg x : Nat) : Int) := by
  have h' : ¬ (x : Int) % 2 = 1 := by simpa using h
  rw [Crc.dg, if_neg (by omega)]; omega
theorem and_one_u32 (x : Nat) (hx : x < 4294967296) : bits .and .u32 (x : Int) 1 = (x : Int) % 2 := by
  rw [show (1 : Int) = ((1 : Nat) : Int) from rfl, u32_and_nat x 1 hx (by omega), nat_mask1]; omega

theorem digit_any (x : Nat) (w : World) (hx : x < 4294967296) :
    Calls Try.prog 96 #[.int .u32 x] w fun e w' => e = .returned (.int .u32 (Crc.dg x)) ∧ w = w' := by
  have ha := and_one_u32 x hx
  go_enter Try.func96, Try.ntmps96
  go_wp2
  · go_ret; exact ⟨ret_int (dg_odd x hx ‹_›), rfl⟩
  · go_ret; exact ⟨ret_int (dg_even x ‹_›), rfl⟩

theorem step_any (c b : Nat) (w : World) (h1 : c < 4294967296) (h2 : b < 256) :
    Calls Try.prog 63 #[.int .u32 c, .int .u8 b] w fun e w' => e = .returned (.int .u32 (Crc.step c b)) ∧ w = w' := by
  have hx : bits .xor .u32 c b = ((c ^^^ b : Nat) : Int) := u32_xor_nat c b h1 (by omega)
  have hl0 := Crc.xor_lt (a := c) (b := b) (by omega) (by omega)
  go_enter Try.func63, Try.ntmps63
  go_wp2
  clear hx h1 h2
  go_loop [0, 5] (fun c' i => ∃ k : Nat, k ≤ 8 ∧ i = .int .i64 k ∧ c' = .int .u32 (Crc.it k (c ^^^ b))) (fun _ i => 8 - (intOf i).toNat)
  case atStart => exact ⟨0, by omega, rfl, rfl⟩
  case round =>
    obtain ⟨k, hk, rfl, rfl⟩ := hrel
    have hl := Crc.it_lt k (c ^^^ b) hl0
    generalize hxx : Crc.it k (c ^^^ b) = x at *
    have HX := Lib.hid hxx
    clear hxx hl0
    go_wp2
    · go_round
      case rel => exact ⟨k + 1, by omega, by go_num, by rw [dg_odd x hl ‹_›, Crc.it, HX.out]⟩
      case measure => simp [intOf]; omega
    · go_round
      case rel => exact ⟨k + 1, by omega, by go_num, by rw [dg_even x ‹_›, Crc.it, HX.out]⟩
      case measure => simp [intOf]; omega
    · go_ret
      obtain rfl : k = 8 := by omega
      exact ⟨by rw [← HX.out]; rfl, rfl⟩

theorem refUpdate_any (c : Nat) (A : Option Addr) (xs : List UInt8) (cap : Nat) (w : World) (h1 : c < 4294967296) (hm : xs.length ≤ 9223372036854775807) (hr : Rd w A (bv xs)) :
    Calls Try.prog 22 #[.int .u32 c, .slice A xs.length cap] w fun e w' => e = .returned (.int .u32 (Crc.upd c xs)) ∧ w = w' := by
  have hfin : ((4294967295 : Int) - (Crc.run (4294967295 - c) xs : Nat)) = ((Crc.upd c xs : Nat) : Int) := by
    have := Crc.run_lt (4294967295 - c) xs (by omega)
    unfold Crc.upd; omega
  have HF := Lib.hid hfin
  clear hfin
  have h0 : ((4294967295 : Int) - c) = ((4294967295 - c : Nat) : Int) := by omega
  go_enter Try.func22, Try.ntmps22
  go_wp2
  clear h0
  go_loop [0, 5] (fun c' i => ∃ k : Nat, k ≤ xs.length ∧ i = .int .i64 k ∧ c' = .int .u32 (Crc.run (4294967295 - c) (xs.take k))) (fun _ i => xs.length - (intOf i).toNat)
  case atStart => exact ⟨0, by omega, rfl, rfl⟩
  case round =>
    obtain ⟨k, hk, rfl, rfl⟩ := hrel
    have hl := Crc.run_lt (4294967295 - c) (xs.take k) (by omega)
    by_cases hlt : k < xs.length
    · obtain ⟨b, off, rfl, hc⟩ := hr.byte k hlt
      have hu := (xs[k]).toNat_lt
      have HS := Lib.hid (Crc.run_snoc (4294967295 - c) xs k hlt)
      generalize hxx : Crc.run (4294967295 - c) (xs.take k) = x at *
      clear hxx hr
      go_wp2_with (go_at_call 63; refine (step_any _ _ _ hl hu).mono ?_; rintro e w' ⟨rfl, rfl⟩)
      go_round
      case rel => exact ⟨k + 1, by omega, by go_num, by rw [HS.out]⟩
      case measure => simp [intOf]; omega
    · obtain rfl : k = xs.length := by omega
      have HT := Lib.hid (List.take_length (l := xs))
      generalize xs.take xs.length = ys at *
      clear hr
      go_wp2
      go_ret
      exact ⟨ret_int (by rw [HT.out, HF.out]), rfl⟩

theorem refSum_any (A : Option Addr) (xs : List UInt8) (cap : Nat) (w : World) (hm : xs.length ≤ 9223372036854775807) (hr : Rd w A (bv xs)) :
    Calls Try.prog 20 #[.slice A xs.length cap] w fun e w' => e = .returned (.int .u32 (Crc.sum xs)) ∧ w = w' := by
  go_enter Try.func20, Try.ntmps20
  go_wp2_with (go_at_call 22; refine (refUpdate_any 0 A xs cap w (by omega) hm hr).mono ?_; rintro e w' ⟨rfl, rfl⟩)
  go_ret
  exact ⟨rfl, rfl⟩
end Go.Proofs.Ytnbnghihmophpaa
