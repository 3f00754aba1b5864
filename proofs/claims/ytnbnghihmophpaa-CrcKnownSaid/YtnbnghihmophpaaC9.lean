/- Walks: the check of rows that are joined, by the program and by the document. -/
import Derived.Test.YtnbnghihmophpaaC8
namespace Go.Proofs.Ytnbnghihmophpaa
open Go.RowKit
set_option maxRecDepth 20000
set_option maxHeartbeats 1000000
set_option linter.unusedVariables false
set_option linter.unusedSimpArgs false

theorem arr_getD {cs : Array Value} {n i : Nat} (h : cs.size = n) (hi : i < n) : cs[i]? = some (cs.getD i undef) := by
  rw [Array.getElem?_eq_getElem (by omega)]; simp [Array.getD, h, hi]
theorem pow_u32 {i : Nat} (h : 2 ^ i < 2 ^ 32) : IntKind.u32.wrap ((2 : Int) ^ i) = ((2 ^ i : Nat) : Int) := by
  have he : ((2 : Int) ^ i) = ((2 ^ i : Nat) : Int) := by rw [Int.natCast_pow]; rfl
  rw [he, IntKind.wrap_u32]
  generalize (2 : Nat) ^ i = x at *
  omega
theorem it_bit (N j a : Nat) : Crc.it (8 * (N % 2 ^ (j + 1))) a = if N / 2 ^ j % 2 = 1 then Crc.it (8 * 2 ^ j) (Crc.it (8 * (N % 2 ^ j)) a) else Crc.it (8 * (N % 2 ^ j)) a := by
  rw [Nat.mod_pow_succ]
  split
  · rename_i h; rw [h, Nat.mul_one, Nat.mul_add, Nat.add_comm (8 * _), Crc.it_add]
  · rename_i h; rw [show N / 2 ^ j % 2 = 0 from by omega, Nat.mul_zero, Nat.add_zero]
theorem and_one_u64' (x : Nat) (hx : x < 18446744073709551616) : bits .and .u64 (x : Int) 1 = (x : Int) % 2 := by
  rw [show (1 : Int) = ((1 : Nat) : Int) from rfl, u64_and_nat x 1 hx (by omega), nat_mask1]; omega

theorem join_any (a b N : Nat) (w : World) (ha : a < 4294967296) (hb : b < 4294967296) (hN : N < 18446744073709551616) :
    Calls Try.prog 67 #[.int .u32 a, .int .u32 b, .int .u64 N] w fun e w' => e = .returned (.int .u32 (Crc.join a b N : Nat)) ∧ Below w.heap.size w w' := by
  have hbd := build152
  go_enter Try.func67, Try.ntmps67
  go_wp2_with fail
  have hS0 : Blk ((w.alloc (.cells Z32 152)).alloc (.cells #[.pointer (some ⟨w.heap.size, 0, none⟩)] 150)) w.heap.size 152 Z32 := (Blk.new w 152 Z32).alloc _
  have hS1 : Blk ((w.alloc (.cells Z32 152)).alloc (.cells #[.pointer (some ⟨w.heap.size, 0, none⟩)] 150)) (w.heap.size + 1) 150 #[.pointer (some ⟨w.heap.size, 0, none⟩)] := by
    have := Blk.new (w.alloc (.cells Z32 152)) 150 #[.pointer (some ⟨w.heap.size, 0, none⟩)]
    rwa [World.size_alloc] at this
  have hS2 : Below w.heap.size w ((w.alloc (.cells Z32 152)).alloc (.cells #[.pointer (some ⟨w.heap.size, 0, none⟩)] 150)) := ((Below.refl _ _).alloc (Nat.le_refl _) _).alloc (by rw [World.size_alloc]; omega) _
  have HS0 := Lib.hid hS0
  have HS1 := Lib.hid hS1
  have HS2 := Lib.hid hS2
  clear hS0 hS1 hS2 hbd
  go_loopw [12] (fun iv wr => ∃ i : Nat, ∃ cs, i ≤ 32 ∧ iv = .int .i64 i ∧ IsMat 1 i cs ∧ Blk wr w.heap.size 152 cs ∧ Blk wr (w.heap.size + 1) 150 #[.pointer (some ⟨w.heap.size, 0, none⟩)] ∧ Below w.heap.size w wr) (fun iv _ => 32 - (intOf iv).toNat)
  case atStart => exact ⟨0, Z32, by omega, rfl, mat_zero _, HS0.out, HS1.out, HS2.out⟩
  case round =>
    clear HS0 HS1 HS2
    obtain ⟨i, cs, hi, rfl, hm, hB, hP, hbl⟩ := hrel
    by_cases hlt : i < 32
    · have hp := Nat.pow_lt_pow_right (a := 2) (by omega) hlt
      have hw : IntKind.u32.wrap ((2 : Int) ^ i) = ((2 ^ i : Nat) : Int) := pow_u32 hp
      have hdg := fun W => digit_any (2 ^ i) W hp
      have hcP : wr.cell? ⟨w.heap.size + 1, 0, none⟩ = some (.pointer (some ⟨w.heap.size, 0, none⟩)) := hP.cell 0
      have hcB : wr.cell? ⟨w.heap.size, i, none⟩ = some (cs.getD i undef) := by
        rw [hB.cell i]; exact arr_getD hm.1 hlt
      have hfB := hB.frozen i
      have hS := mat_set hm hlt
      rw [Crc.it_one] at hS
      have HS := Lib.hid hS
      have HBS := Lib.hid (hB.set_ i (.int .u32 (Crc.dg (2 ^ i) : Nat)))
      have HPS := Lib.hid (hP.far (p := ⟨w.heap.size, i, none⟩) (by show w.heap.size + 1 ≠ w.heap.size; omega) (.int .u32 (Crc.dg (2 ^ i) : Nat)))
      have HLS := Lib.hid (hbl.setCell (p := ⟨w.heap.size, i, none⟩) (Nat.le_refl _) (.int .u32 (Crc.dg (2 ^ i) : Nat)))
      have HDG := Lib.hid hdg
      clear hS hB hm hdg hP hbl
      generalize cs.getD i undef = u0 at *
      generalize Crc.dg (2 ^ i) = y at *
      generalize (2 : Nat) ^ i = x at *
      have i3 : (0 : Int) ≤ i := by omega
      have i4 : (i : Int) < 32 := by omega
      go_wp2
      go_still_tail 7, (by kernel_rfl)
      still_call ((HDG.out _).mono fun _ _ h => ⟨h.1, h.2.symm⟩)
      repeat still_step
      refine wpStill_nil ?_
      change wpList _ _ _ _ _ wr.drew
      go_wp2
      go_roundw
      case rel => exact ⟨i + 1, _, by omega, by go_num, HS.out, HBS.out, HPS.out, below_drewN' HLS.out 1⟩
      case measure => simp [intOf]; omega
    · obtain rfl : i = 32 := by omega
      have H1 := Lib.hid (double_any (w.heap.size + 1) w.heap.size 1 3 cs wr (by omega) hP hB hm)
      have HBL := Lib.hid hbl
      have hf : Crc.it (8 * (N % 2 ^ 0)) a = a := by rw [Nat.pow_zero, Nat.mod_one]; rfl
      have HF := Lib.hid hf
      clear hm hB hP hbl hf
      go_wp2_with (go_at_call 98; refine H1.out.mono ?_; rintro e w1 ⟨g1, cs1, rfl, hP1, hB1, hm1, hg1⟩)
      have hm1 : IsMat (8 * 2 ^ 0) 32 cs1 := hm1
      have hb1 : Below w.heap.size w w1 := ⟨hg1.os.trans HBL.out.os, hg1.tape.trans HBL.out.tape, hg1.output.trans HBL.out.output, Nat.le_trans HBL.out.size hg1.size, fun k hk => (hg1.block k (Nat.lt_of_lt_of_le hk HBL.out.size) (by simp; omega)).trans (HBL.out.block k hk)⟩
      have HP1 := Lib.hid hP1
      have HB1 := Lib.hid hB1
      have HM1 := Lib.hid hm1
      have HBB := Lib.hid hb1
      clear hP1 hB1 hm1 hg1 hb1 H1 HBL hlt hi
      go_loopw [0, 2] (fun av nv wr => ∃ j g' : Nat, ∃ cs', j ≤ 64 ∧ nv = .int .u64 (N / 2 ^ j : Nat) ∧ av = .int .u32 (Crc.it (8 * (N % 2 ^ j)) a : Nat) ∧ IsMat (8 * 2 ^ j) 32 cs' ∧ Blk wr g' 152 cs' ∧ Blk wr (w.heap.size + 1) 150 #[.pointer (some ⟨g', 0, none⟩)] ∧ Below w.heap.size w wr) (fun _ nv _ => (intOf nv).toNat)
      case atStart => exact ⟨0, g1, cs1, by omega, by simp, by rw [HF.out], HM1.out, HB1.out, HP1.out, HBB.out⟩
      case round =>
        clear HP1 HB1 HM1 HBB HF
        obtain ⟨j, g', cs', hj, rfl, rfl, hm, hB, hP, hbl⟩ := hrel
        have hdd : N / 2 ^ (j + 1) = N / 2 ^ j / 2 := by rw [Nat.pow_succ, Nat.div_div_eq_div_mul]
        have hnx := it_bit N j a
        have hlt := Crc.it_lt (8 * (N % 2 ^ j)) a ha
        have hdl : N / 2 ^ j < 18446744073709551616 := Nat.lt_of_le_of_lt (Nat.div_le_self _ _) hN
        have hj64 : 0 < N / 2 ^ j → j < 64 := fun h => by
          refine Classical.byContradiction fun hge => ?_
          have h64 : (2 : Nat) ^ 64 ≤ 2 ^ j := Nat.pow_le_pow_right (by omega) (by omega)
          have : N / 2 ^ j = 0 := Nat.div_eq_of_lt (by omega)
          omega
        have hz : N / 2 ^ j = 0 → N % 2 ^ j = N := fun h => by
          have hpos : 0 < 2 ^ j := Nat.two_pow_pos j
          exact Nat.mod_eq_of_lt (by have := Nat.div_eq_zero_iff.1 h; omega)
        have HDD := Lib.hid hdd
        have HNX := Lib.hid hnx
        have HZ := Lib.hid hz
        clear hdd hnx hz
        by_cases h0 : 0 < N / 2 ^ j
        · have hj' := hj64 h0
          have hdb := fun W hP' hB' => double_any (w.heap.size + 1) g' (8 * 2 ^ j) 1 cs' W (by omega) hP' hB' hm
          rw [Nat.pow_one, show 8 * 2 ^ j * 2 = 8 * 2 ^ (j + 1) from by rw [Nat.pow_succ, Nat.mul_assoc]] at hdb
          have hof := fun W h => of_any g' 152 cs' (8 * 2 ^ j) (Crc.it (8 * (N % 2 ^ j)) a) W hlt h hm
          have hcP : wr.cell? ⟨w.heap.size + 1, 0, none⟩ = some (.pointer (some ⟨g', 0, none⟩)) := hP.cell 0
          have HDB := Lib.hid (hdb wr hP hB)
          have HOF := Lib.hid (hof wr hB)
          have HBL := Lib.hid hbl
          clear hdb hof hbl hP hB hm hj64 hlt
          generalize hd : N / 2 ^ j = d at *
          have hand := and_one_u64' d hdl
          have hbit := eq_one_nat d
          generalize Crc.it (8 * (N % 2 ^ j)) a = o at *
          clear hd hdl
          by_cases hodd : d % 2 = 1
          · rw [show decide (d % 2 = 1) = true from by simp [hodd]] at hbit
            have HO := Lib.hid hodd
            clear hodd ha hb hN
            generalize hyy : Crc.it (8 * 2 ^ j) o = y at *
            have HYY := Lib.hid hyy
            clear hyy
            go_wp2_with (first
              | (go_at_call 100; refine HOF.out.mono ?_; rintro e w9 ⟨rfl, rfl⟩)
              | (go_at_call 98; refine HDB.out.mono ?_; rintro e w2 ⟨g2, cs2, rfl, hP2, hB2, hm2, hg2⟩; have H1 := Lib.hid hP2; have H2 := Lib.hid hB2; have H3 := Lib.hid hm2; have H4 := Lib.hid hg2; clear hP2 hB2 hm2 hg2))
            have HB2 : Below w.heap.size w w2 := ⟨H4.out.os.trans HBL.out.os, H4.out.tape.trans HBL.out.tape, H4.out.output.trans HBL.out.output, Nat.le_trans HBL.out.size H4.out.size, fun k hk => (H4.out.block k (Nat.lt_of_lt_of_le hk HBL.out.size) (by simp; omega)).trans (HBL.out.block k hk)⟩
            go_roundw
            case rel => exact ⟨j + 1, g2, cs2, by omega, by rw [HDD.out]; go_num, by rw [HNX.out, if_pos HO.out], H3.out, H2.out, H1.out, HB2⟩
            case measure => simp [intOf]; omega
          · rw [show decide (d % 2 = 1) = false from by simp [hodd]] at hbit
            have HO := Lib.hid hodd
            clear hodd ha hb hN
            go_wp2_with (first
              | (go_at_call 98; refine HDB.out.mono ?_; rintro e w2 ⟨g2, cs2, rfl, hP2, hB2, hm2, hg2⟩; have H1 := Lib.hid hP2; have H2 := Lib.hid hB2; have H3 := Lib.hid hm2; have H4 := Lib.hid hg2; clear hP2 hB2 hm2 hg2))
            have HB2 : Below w.heap.size w w2 := ⟨H4.out.os.trans HBL.out.os, H4.out.tape.trans HBL.out.tape, H4.out.output.trans HBL.out.output, Nat.le_trans HBL.out.size H4.out.size, fun k hk => (H4.out.block k (Nat.lt_of_lt_of_le hk HBL.out.size) (by simp; omega)).trans (HBL.out.block k hk)⟩
            go_roundw
            case rel => exact ⟨j + 1, g2, cs2, by omega, by rw [HDD.out]; go_num, by rw [HNX.out, if_neg HO.out], H3.out, H2.out, H1.out, HB2⟩
            case measure => simp [intOf]; omega
        · have hz : N / 2 ^ j = 0 := Nat.eq_zero_of_not_pos h0
          have hfin : Crc.it (8 * (N % 2 ^ j)) a = Crc.it (8 * N) a := by rw [HZ.out hz]
          have hl2 := Crc.it_lt (8 * N) a ha
          have hxx : bits .xor .u32 (Crc.it (8 * N) a : Nat) (b : Int) = ((Crc.join a b N : Nat) : Int) := u32_xor_nat _ _ hl2 hb
          have HBL := Lib.hid hbl
          rw [hfin]
          clear hz hj64 hbl hP hB hm hlt hl2 ha hN hb hfin
          generalize N / 2 ^ j = d at *
          have hd : d = 0 := by omega
          subst hd
          generalize Crc.it (8 * N) a = o at *
          generalize hrr : Crc.join a b N = r at *
          have HRR := Lib.hid hrr
          clear hrr
          go_wp2
          go_ret
          exact ⟨by rw [HRR.out]; rfl, HBL.out⟩
end Go.Proofs.Ytnbnghihmophpaa
