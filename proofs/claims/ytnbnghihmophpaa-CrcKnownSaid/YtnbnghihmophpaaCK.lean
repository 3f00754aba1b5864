/- Walks: rows joined as the document says; the law on joined rows, which the examples of chapter 2 come to. -/
import Derived.Test.YtnbnghihmophpaaC9
namespace Go.Proofs.Ytnbnghihmophpaa
open Go.RowKit
set_option maxRecDepth 20000
set_option maxHeartbeats 1000000
set_option linter.unusedVariables false
set_option linter.unusedSimpArgs false

theorem refJoin_any (a b n : Nat) (w : World) (ha : a < 4294967296) (hb : b < 4294967296) (hn : n ≤ 1000000) :
    Calls Try.prog 68 #[.int .u32 a, .int .u32 b, .int .i64 n] w fun e w' => e = .returned (.int .u32 (Crc.join a b n : Nat)) ∧ w = w' := by
  have hf : Crc.it (8 * 0) a = a := rfl
  have HF := Lib.hid hf
  clear hf
  go_enter Try.func68, Try.ntmps68
  go_wp2
  go_loop [0, 7] (fun av iv => ∃ k : Nat, k ≤ n ∧ iv = .int .i64 k ∧ av = .int .u32 (Crc.it (8 * k) a : Nat)) (fun _ iv => n - (intOf iv).toNat)
  case atStart => exact ⟨0, by omega, rfl, by rw [HF.out]⟩
  case round =>
    obtain ⟨k, hk, rfl, rfl⟩ := hrel
    have hl := Crc.it_lt (8 * k) a ha
    by_cases hlt : k < n
    · have hS : Crc.step (Crc.it (8 * k) a) 0 = Crc.it (8 * (k + 1)) a := by
        unfold Crc.step; rw [Nat.xor_zero, show 8 * (k + 1) = 8 + 8 * k from by omega, Crc.it_add]
      have HS := Lib.hid hS
      have h63 := fun W => step_any (Crc.it (8 * k) a) 0 W hl (by omega)
      have H63 := Lib.hid h63
      clear h63 hS ha hb
      generalize hx : Crc.it (8 * k) a = x at *
      clear hx
      go_wp2_with (go_at_call 63; refine (H63.out _).mono ?_; rintro e w' ⟨rfl, rfl⟩)
      go_round
      case rel => exact ⟨k + 1, by omega, by go_num, by rw [HS.out]⟩
      case measure => simp [intOf]; omega
    · obtain rfl : k = n := by omega
      have hxx : bits .xor .u32 (Crc.it (8 * k) a : Nat) (b : Int) = ((Crc.join a b k : Nat) : Int) := u32_xor_nat _ _ hl hb
      clear hl ha hb HF
      generalize Crc.it (8 * k) a = o at *
      generalize hrr : Crc.join a b k = r at *
      have HRR := Lib.hid hrr
      clear hrr
      go_wp2
      go_ret
      exact ⟨by rw [HRR.out]; rfl, rfl⟩

theorem crcJoins_walk (A B : Option Addr) (xs ys : List UInt8) (cap capy a b c m n : Nat) (w : World) (hx : xs.length ≤ 1000) (hy : ys.length ≤ 1000) (ha : a < 4294967296) (hb : b < 4294967296) (hc : c < 4294967296) (hm : m < 18446744073709551616) (hn : n < 18446744073709551616)
    (hr : Rd w A (bv xs)) (hry : Rd w B (bv ys)) :
    Calls Try.prog 30 #[.slice A xs.length cap, .slice B ys.length capy, .int .u32 a, .int .u32 b, .int .u32 c, .int .u64 m, .int .u64 n] w fun e w' => e = .returned (.bool true) ∧ Below w.heap.size w w' := by
  have hg : decide ((1000 : Int) < xs.length) = false := by simp; omega
  have hg2 : decide ((1000 : Int) < ys.length) = false := by simp; omega
  have hsx := Crc.sum_lt xs
  have hsy := Crc.sum_lt ys
  have h19x := fun W h => sum_any A xs cap W (by omega) h
  have h19y := fun W h => sum_any B ys capy W (by omega) h
  have h19z := fun A' c' W h => sum_any A' (xs ++ ys) c' W (by rw [List.length_append]; omega) h
  have h67 := fun W => join_any (Crc.sum xs) (Crc.sum ys) ys.length W hsx hsy (by omega)
  have h21 := fun W h => update_any (Crc.sum xs) B ys capy W hsx (by omega) h
  rw [Crc.join_sum] at h67
  rw [Crc.upd_sum] at h21
  have hzl : (xs ++ ys).length = xs.length + ys.length := List.length_append
  have hbvz : bv (xs ++ ys) = bv xs ++ bv ys := bv_append xs ys
  rw [hzl] at h19z
  have hf : n % 3000 ≤ 1000000 := by omega
  have h67f := fun W => join_any a b (n % 3000) W ha hb (by omega)
  have h68f := fun W => refJoin_any a b (n % 3000) W ha hb hf
  have h1 := fun W => join_any a b (m / 2) W ha hb (by omega)
  have hj1 := Crc.join_lt (m / 2) ha hb
  have h2 := fun W => join_any (Crc.join a b (m / 2)) c (n / 2) W hj1 hc (by omega)
  have h3 := fun W => join_any b c (n / 2) W hb hc (by omega)
  have hj3 := Crc.join_lt (n / 2) hb hc
  have h4 := fun W => join_any a (Crc.join b c (n / 2)) (m / 2 + n / 2) W ha hj3 (by omega)
  rw [Crc.join_join] at h2
  rw [show ((n % 3000 : Nat) : Int) = (n : Int) % 3000 from by omega] at h67f h68f
  rw [show ((m / 2 : Nat) : Int) = (m : Int) / 2 from by omega] at h1
  rw [show ((n / 2 : Nat) : Int) = (n : Int) / 2 from by omega] at h2 h3
  rw [show ((m / 2 + n / 2 : Nat) : Int) = (m : Int) / 2 + (n : Int) / 2 from by omega] at h4
  generalize Crc.join a (Crc.join b c (n / 2)) (m / 2 + n / 2) = r at *
  generalize Crc.join b c (n / 2) = r3 at *
  generalize Crc.join a b (m / 2) = r1 at *
  generalize Crc.join a b (n % 3000) = rf at *
  generalize Crc.sum (xs ++ ys) = sz at *
  generalize Crc.sum xs = sx at *
  generalize Crc.sum ys = sy at *
  generalize xs ++ ys = zs at *
  have hA : All w [(A, xs), (B, ys)] := ⟨hr, hry, trivial⟩
  have H19x := Lib.hid h19x
  have H19y := Lib.hid h19y
  have H19z := Lib.hid h19z
  have H67 := Lib.hid h67
  have H21 := Lib.hid h21
  have H67f := Lib.hid h67f
  have H68f := Lib.hid h68f
  have H1 := Lib.hid h1
  have H2 := Lib.hid h2
  have H3 := Lib.hid h3
  have H4 := Lib.hid h4
  have HZL := Lib.hid hzl
  have HBZ := Lib.hid hbvz
  clear h19x h19y h19z h67 h21 h67f h68f h1 h2 h3 h4 hr hry hzl hbvz hsx hsy hj1 hj3 ha hb hc
  go_enter Try.func30, Try.ntmps30
  go_wp2_with fail
  refine (own_any A xs cap w (by omega) hA.1).mono ?_
  rintro e w1 ⟨A1, c1, rfl, ho1, hb1⟩
  have hA1 := All.below hb1 _ hA
  go_wp2_with (first
    | (at_builtin; refine wpList_append_rd rfl (.tmp 27) (.tmp 28) 23 rfl w.heap.size 5 (.int .u8 0) 1 1 Try.underlying23 info5 rfl (by omega) (.slice A1 xs.length c1) xs.length (bv xs) rfl ho1 B ys.length capy (bv ys) rfl (by simp) hA1.2.1 (bv_one ys) (by simp only [maxLen]; omega) (by omega) hb1.size ?_; intro v2 w2 ho2 hg2 _; obtain ⟨A2, c2, hv, _, _⟩ := own_slice ho2; subst hv; have hb2 : Below w.heap.size w w2 := hb1.grown hg2 hb1.size (fun k hk => (ho1.lt k hk).1))
    | fail)
  have hA2 : All w2 [(A2, zs), (A, xs), (B, ys)] := ⟨by have := Rd.of_own ho2; rwa [← HBZ.out] at this, All.below hb2 _ hA⟩
  clear hA hA1 hb1 ho1 ho2 hg2
  go_wp2_with fail
  refine (H19x.out _ hA2.2.1).mono ?_
  rintro e w3 ⟨rfl, hb3⟩
  have hA3 := All.below hb3 _ hA2
  have hT3 := below_seq hb2 hb3
  clear hA2 hb2 hb3
  go_wp2_with fail
  refine (H19y.out _ hA3.2.2.1).mono ?_
  rintro e w4 ⟨rfl, hb4⟩
  have hA4 := All.below hb4 _ hA3
  have hT4 := below_seq hT3 hb4
  clear hA3 hT3 hb4
  go_wp2_with fail
  refine (H67.out _).mono ?_
  rintro e w5 ⟨rfl, hb5⟩
  have hA5 := All.below hb5 _ hA4
  have hT5 := below_seq hT4 hb5
  clear hA4 hT4 hb5
  go_wp2_with fail
  refine (H19z.out _ _ _ hA5.1).mono ?_
  rintro e w6 ⟨rfl, hb6⟩
  have hA6 := All.below hb6 _ hA5
  have hT6 := below_seq hT5 hb6
  clear hA5 hT5 hb6
  go_wp2_with fail
  refine (H19x.out _ hA6.2.1).mono ?_
  rintro e w7 ⟨rfl, hb7⟩
  have hA7 := All.below hb7 _ hA6
  have hT7 := below_seq hT6 hb7
  clear hA6 hT6 hb7
  go_wp2_with fail
  refine (H21.out _ hA7.2.2.1).mono ?_
  rintro e w8 ⟨rfl, hb8⟩
  have hA8 := All.below hb8 _ hA7
  have hT8 := below_seq hT7 hb8
  clear hA7 hT7 hb8
  go_wp2_with fail
  refine (H19z.out _ _ _ hA8.1).mono ?_
  rintro e w9 ⟨rfl, hb9⟩
  have hT9 := below_seq hT8 hb9
  clear hA8 hT8 hb9
  go_wp2_with fail
  refine (H67f.out _).mono ?_
  rintro e w10 ⟨rfl, hb10⟩
  have hT10 := below_seq hT9 hb10
  clear hT9 hb10
  go_wp2_with fail
  refine (H68f.out _).mono ?_
  rintro e w11 ⟨rfl, rfl⟩
  go_wp2_with fail
  refine (H1.out _).mono ?_
  rintro e w12 ⟨rfl, hb12⟩
  have hT12 := below_seq hT10 hb12
  clear hT10 hb12
  go_wp2_with fail
  refine (H2.out _).mono ?_
  rintro e w13 ⟨rfl, hb13⟩
  have hT13 := below_seq hT12 hb13
  clear hT12 hb13
  go_wp2_with fail
  refine (H3.out _).mono ?_
  rintro e w14 ⟨rfl, hb14⟩
  have hT14 := below_seq hT13 hb14
  clear hT13 hb14
  go_wp2_with fail
  refine (H4.out _).mono ?_
  rintro e w15 ⟨rfl, hb15⟩
  have hT15 := below_seq hT14 hb15
  clear hT14 hb15
  go_wp2_with fail
  refine (works_any _).mono ?_
  rintro e w16 ⟨rfl, hb16⟩
  have HT16 := Lib.hid (below_seq hT15 hb16)
  clear hT15 hb16
  go_wp2
  go_ret
  exact ⟨rfl, HT16.out⟩
end Go.Proofs.Ytnbnghihmophpaa
