/- The walks of the statements of chapter 2. -/
import Derived.Test.YtnbnghihmophpaaC5
namespace Go.Proofs.Ytnbnghihmophpaa
open Go.RowKit
set_option maxRecDepth 20000
set_option maxHeartbeats 1000000
set_option linter.unusedVariables false
set_option linter.unusedSimpArgs false

theorem crcSums_walk (c : Nat) (A : Option Addr) (xs : List UInt8) (cap : Nat) (w : World) (h1 : c < 4294967296) (hm : xs.length ≤ 9223372036854775807) (hr : Rd w A (bv xs)) :
    Calls Try.prog 3 #[.int .u32 c, .slice A xs.length cap] w fun e w' => e = .returned (.bool true) ∧ Below w.heap.size w w' := by
  by_cases hbig : 3000 < xs.length
  · have hb' : (3000 : Int) < xs.length := by omega
    clear hr h1
    go_enter Try.func3, Try.ntmps3
    go_wp2_with (go_at_call 17; refine (works_any _).mono ?_; rintro e w1 ⟨rfl, hb⟩)
    go_ret
    exact ⟨rfl, hb⟩
  · have hb' : ¬ (3000 : Int) < xs.length := by omega
    have hsame : (xs == xs) = true := by simp
    generalize hs : Crc.sum xs = s at *
    generalize hu : Crc.upd c xs = u at *
    have h19 := fun W hr => sum_any A xs cap W hm hr
    have h20 := fun W A cap hr => refSum_any A xs cap W hm hr
    have h21 := fun W hr => update_any c A xs cap W h1 hm hr
    have h22 := fun W A cap hr => refUpdate_any c A xs cap W h1 hm hr
    have h23 := fun W A' c' hr' hr => same_any A' A xs xs c' cap W hm hm hr' hr
    rw [hsame] at h23
    rw [hs] at h19 h20
    rw [hu] at h21 h22
    have H19 := Lib.hid h19
    have H20 := Lib.hid h20
    have H21 := Lib.hid h21
    have H22 := Lib.hid h22
    have H23 := Lib.hid h23
    clear h19 h20 h21 h22 h23 hs hu hsame h1
    go_enter Try.func3, Try.ntmps3
    go_wp2_with (first
      | (go_at_call 18; refine (own_any A xs cap w (by omega) hr).mono ?_; rintro e w1 ⟨A1, c1, rfl, hown, hb1⟩)
      | (go_at_call 19; refine (H19.out _ (hr.below hb1)).mono ?_; rintro e w2 ⟨rfl, hb2⟩)
      | (go_at_call 20; refine (H20.out _ _ _ ((Rd.of_own hown).below hb2)).mono ?_; rintro e w3 ⟨rfl, rfl⟩)
      | (go_at_call 21; refine (H21.out _ (hr.below (below_seq hb1 hb2))).mono ?_; rintro e w4 ⟨rfl, hb4⟩)
      | (go_at_call 22; refine (H22.out _ _ _ ((Rd.of_own hown).below (below_seq hb2 hb4))).mono ?_; rintro e w5 ⟨rfl, rfl⟩)
      | (go_at_call 23; refine (H23.out _ _ _ ((Rd.of_own hown).below (below_seq hb2 hb4)) (hr.below (below_seq hb1 (below_seq hb2 hb4)))).mono ?_; rintro e w6 ⟨rfl, n, rfl⟩)
      | (go_at_call 17; refine (works_any _).mono ?_; rintro e w7 ⟨rfl, hb7⟩))
    go_ret
    exact ⟨rfl, below_seq (below_drewN' (below_seq hb1 (below_seq hb2 hb4)) n) hb7⟩

/-- Several slices of bytes at once. -/
def All (w : World) : List (Option Addr × List UInt8) → Prop
  | [] => True
  | p :: l => Rd w p.1 (bv p.2) ∧ All w l
theorem All.below {w w' : World} (hb : Below w.heap.size w w') : ∀ l, All w l → All w' l
  | [], _ => trivial
  | _ :: l, h => ⟨h.1.below hb, All.below hb l h.2⟩

/-- What the document's Open tells: the bytes, and the error. -/
def openL (xs : List UInt8) : List UInt8 := if xs.length < 4 then [] else if xs.drop (xs.length - 4) == be4 (Crc.sum (xs.take (xs.length - 4))) then xs.take (xs.length - 4) else []
def openE (xs : List UInt8) : Int := if xs.length < 4 then 10 else if xs.drop (xs.length - 4) == be4 (Crc.sum (xs.take (xs.length - 4))) then 0 else 140

theorem open_rd (A : Option Addr) (xs : List UInt8) (cap : Nat) (w : World) (hm : xs.length ≤ 1000000) (hc : xs.length ≤ cap) (hr : Rd w A (bv xs)) :
    Calls Try.prog 26 #[.slice A xs.length cap] w fun e w' => ∃ A' c', e = .returned (.tuple #[.slice A' (openL xs).length c', .int .i64 (openE xs)]) ∧ Rd w' A' (bv (openL xs)) ∧ Below w.heap.size w w' := by
  unfold openL openE
  by_cases h : xs.length < 4
  · rw [if_pos h, if_pos h]
    refine (open_short A xs cap w h).mono ?_
    rintro e w' ⟨rfl, rfl⟩
    exact ⟨none, 0, rfl, Rd.nil _ _, Below.refl _ _⟩
  · rw [if_neg h, if_neg h]
    have hb : (xs.take (xs.length - 4)).length = xs.length - 4 := by simp
    have hlen : xs.length = (xs.take (xs.length - 4)).length + 4 := by omega
    have key := open_long A (xs.take (xs.length - 4)) (xs.drop (xs.length - 4)) cap w (by simp; omega) (by omega) (by omega) (by rw [List.take_append_drop]; exact hr) _ rfl
    rw [← hlen] at key
    refine key.mono ?_
    rintro e w' ⟨hb, hy, hn⟩
    split
    · rename_i he
      obtain ⟨A', c', rfl, hown⟩ := hy he
      exact ⟨A', c', rfl, Rd.of_own hown, hb⟩
    · rename_i he
      exact ⟨none, 0, hn (by simpa using he), Rd.nil _ _, hb⟩
theorem refOpen_rd (A : Option Addr) (xs : List UInt8) (cap : Nat) (w : World) (hm : xs.length ≤ 1000000) (hc : xs.length ≤ cap) (hr : Rd w A (bv xs)) :
    Calls Try.prog 28 #[.slice A xs.length cap] w fun e w' => ∃ A' c', e = .returned (.tuple #[.slice A' (openL xs).length c', .int .i64 (openE xs)]) ∧ Rd w' A' (bv (openL xs)) ∧ Below w.heap.size w w' := by
  unfold openL openE
  by_cases h : xs.length < 4
  · rw [if_pos h, if_pos h]
    refine (refOpen_short A xs cap w h).mono ?_
    rintro e w' ⟨rfl, rfl⟩
    exact ⟨none, 0, rfl, Rd.nil _ _, Below.refl _ _⟩
  · rw [if_neg h, if_neg h]
    have hb : (xs.take (xs.length - 4)).length = xs.length - 4 := by simp
    have hlen : xs.length = (xs.take (xs.length - 4)).length + 4 := by omega
    have key := refOpen_long A (xs.take (xs.length - 4)) (xs.drop (xs.length - 4)) cap w (by simp; omega) (by omega) (by omega) (by rw [List.take_append_drop]; exact hr) _ rfl
    rw [← hlen] at key
    refine key.mono ?_
    rintro e w' ⟨hb, hy, hn⟩
    split
    · rename_i he
      obtain ⟨A', c', rfl, _, hr'⟩ := hy he
      exact ⟨A', c', rfl, hr', hb⟩
    · rename_i he
      exact ⟨none, 0, hn (by simpa using he), Rd.nil _ _, hb⟩
theorem openL_le (xs : List UInt8) : (openL xs).length ≤ xs.length := by
  unfold openL; split
  · simp
  · split <;> simp

theorem crcOpens_walk (A B : Option Addr) (xs os : List UInt8) (cap capo : Nat) (w : World) (hm : xs.length ≤ 9223372036854775807) (hmo : os.length ≤ 9223372036854775807)
    (hc : xs.length ≤ cap) (hco : os.length ≤ capo) (hr : Rd w A (bv xs)) (hro : Rd w B (bv os)) :
    Calls Try.prog 4 #[.slice A xs.length cap, .slice B os.length capo] w fun e w' => e = .returned (.bool true) ∧ Below w.heap.size w w' := by
  by_cases hbig : 2000 < xs.length ∨ 2000 < os.length
  · rcases hbig with hb' | hb'
    · have hb' : (2000 : Int) < xs.length := by omega
      have hg : decide ((2000 : Int) < xs.length) = true := by simpa using hb'
      clear hr hro
      go_enter Try.func4, Try.ntmps4
      go_wp2_with (go_at_call 17; refine (works_any _).mono ?_; rintro e w1 ⟨rfl, hb⟩)
      go_ret
      exact ⟨rfl, hb⟩
    · by_cases hx : 2000 < xs.length
      · have hg : decide ((2000 : Int) < xs.length) = true := by simp; omega
        clear hr hro
        go_enter Try.func4, Try.ntmps4
        go_wp2_with (go_at_call 17; refine (works_any _).mono ?_; rintro e w1 ⟨rfl, hb⟩)
        go_ret
        exact ⟨rfl, hb⟩
      · have hg : decide ((2000 : Int) < xs.length) = false := by simp; omega
        have hg2 : decide ((2000 : Int) < os.length) = true := by simp; omega
        clear hr hro
        go_enter Try.func4, Try.ntmps4
        go_wp2_with (go_at_call 17; refine (works_any _).mono ?_; rintro e w1 ⟨rfl, hb⟩)
        go_ret
        exact ⟨rfl, hb⟩
  · have hg : decide ((2000 : Int) < xs.length) = false := by simp; omega
    have hg2 : decide ((2000 : Int) < os.length) = false := by simp; omega
    have hb1 : xs.length ≤ 2000 := by omega
    have hb2 : os.length ≤ 2000 := by omega
    clear hbig hm hmo
    have h24 := fun W h => put_any A xs cap W (by omega) hc h
    have h25 := fun A' c' W h => refPut_any A' xs c' W (by omega) h
    have h26 := fun A' c' W (hcc : xs.length + 4 ≤ c') (h : Rd W A' (bv (xs ++ be4 (Crc.sum xs)))) => open_long A' xs (be4 (Crc.sum xs)) c' W rfl (by omega) hcc h true (by simp)
    have hlen : (xs ++ be4 (Crc.sum xs)).length = xs.length + 4 := by rw [List.length_append]; rfl
    rw [← hlen] at h26
    generalize xs ++ be4 (Crc.sum xs) = ys at *
    have hy1 : ys.length ≤ 3000 := by omega
    have h23 := fun A' A'' (zs : List UInt8) c' c'' W (hz : zs.length ≤ 10000) h h' => same_any A' A'' zs zs c' c'' W (by omega) (by omega) h h'
    simp only [beq_self_eq_true] at h23
    have hol := openL_le os
    have h26o := open_rd B os capo
    have h28o := fun A' c' => refOpen_rd A' os c'
    generalize openL os = zs at *
    generalize openE os = er at *
    have H23 := Lib.hid h23
    have H24 := Lib.hid h24
    have H25 := Lib.hid h25
    have H26 := Lib.hid h26
    have HO26 := Lib.hid h26o
    have HO28 := Lib.hid h28o
    have HL := Lib.hid hlen
    clear h23 h24 h25 h26 h26o h28o hlen
    have hA : All w [(A, xs), (B, os)] := ⟨hr, hro, trivial⟩
    clear hr hro
    go_enter Try.func4, Try.ntmps4
    go_wp2_with fail
    refine (own_any A xs cap w (by omega) hA.1).mono ?_
    rintro e w1 ⟨A1, c1, rfl, ho1, hb1⟩
    have hA1 : All w1 [(A1, xs), (A, xs), (B, os)] := ⟨Rd.of_own ho1, hA.below hb1 _⟩
    clear hA ho1
    go_wp2_with fail
    refine (H24.out _ hA1.2.1).mono ?_
    rintro e w2 ⟨A2, c2, rfl, ho2, hb2⟩
    have hA2 : All w2 [(A2, ys), (A1, xs), (A, xs), (B, os)] := ⟨Rd.of_own ho2, All.below hb2 _ hA1⟩
    have hT2 := below_seq hb1 hb2
    have hc2 : ys.length ≤ c2 := by obtain ⟨_, _, he, hle, _⟩ := own_slice ho2; injection he with _ _ he; omega
    clear hA1 hb1 hb2 ho2
    go_wp2_with fail
    refine (H25.out _ _ _ hA2.2.1).mono ?_
    rintro e w3 ⟨A3, c3, rfl, ho3, hb3⟩
    have hA3 : All w3 [(A3, ys), (A2, ys), (A1, xs), (A, xs), (B, os)] := ⟨Rd.of_own ho3, All.below hb3 _ hA2⟩
    have hT3 := below_seq hT2 hb3
    clear hA2 hT2 hb3 ho3
    go_wp2_with fail
    refine (H23.out _ _ ys _ _ _ (by omega) hA3.2.1 hA3.1).mono ?_
    rintro e w4 ⟨rfl, n4, rfl⟩
    have hT4 := below_drewN' hT3 n4
    have hA4 : All (w3.drewN n4) [(A2, ys), (A1, xs), (A, xs), (B, os)] := hA3.2
    clear hA3 hT3
    go_wp2_with fail
    refine (H23.out _ _ xs _ _ _ (by omega) hA4.2.1 hA4.2.2.1).mono ?_
    rintro e w5 ⟨rfl, n5, rfl⟩
    have hT5 := below_drewN' hT4 n5
    have hA5 : All ((w3.drewN n4).drewN n5) [(A2, ys), (A, xs), (B, os)] := ⟨hA4.1, hA4.2.2.1, hA4.2.2.2⟩
    clear hA4 hT4
    generalize (w3.drewN n4).drewN n5 = w5 at *
    go_wp2_with fail
    refine (own_any A2 ys c2 w5 (by omega) hA5.1).mono ?_
    rintro e w6 ⟨A6, c6, rfl, ho6, hb6⟩
    have hA6 : All w6 [(A6, ys), (A2, ys), (A, xs), (B, os)] := ⟨Rd.of_own ho6, All.below hb6 _ hA5⟩
    have hT6 := below_seq hT5 hb6
    clear hA5 hT5 hb6 ho6
    go_wp2_with fail
    refine (H26.out _ _ _ hc2 hA6.2.1).mono ?_
    rintro e w7 ⟨hb7, hok, _⟩
    obtain ⟨A7, c7, rfl, ho7⟩ := hok rfl
    have hr7 := Rd.of_own ho7
    have hrA := hA6.2.2.1.below hb7
    clear hok
    go_wp2_with fail
    refine (H23.out _ _ xs _ _ _ (by omega) hr7 hrA).mono ?_
    rintro e w8 ⟨rfl, n8, rfl⟩
    have hb8 : Below w6.heap.size w6 (w7.drewN n8) := below_drewN' hb7 n8
    have ho8 : (w7.drewN n8).ownsRow w6.heap.size 5 1 (.slice A7 xs.length c7) xs.length (bv xs) := ho7
    clear hb7 ho7 hrA hr7
    generalize w7.drewN n8 = w8 at *
    go_wp2_with fail
    refine (spoil_any A7 xs c7 w6.heap.size w8 (by omega) ho8 hb8.size).mono ?_
    rintro e w9 ⟨rfl, hb9⟩
    have hb9 := hb8.trans hb9
    have hA9 := All.below hb9 _ hA6
    have hT9 := below_seq hT6 hb9
    clear hb8 ho8 hb9 hA6 hT6
    go_wp2_with fail
    refine (HO26.out _ (by omega) hco hA9.2.2.2.1).mono ?_
    rintro e w10 ⟨A10, c10, rfl, hr10, hb10⟩
    have hA10 : All w10 [(A10, zs), (A6, ys), (A2, ys), (A, xs), (B, os)] := ⟨hr10, All.below hb10 _ hA9⟩
    have hT10 := below_seq hT9 hb10
    clear hA9 hT9 hb10 hr10
    go_wp2_with fail
    refine (own_any B os capo w10 (by omega) hA10.2.2.2.2.1).mono ?_
    rintro e w11 ⟨A11, c11, rfl, ho11, hb11⟩
    have hc11 : os.length ≤ c11 := by obtain ⟨_, _, he, hle, _⟩ := own_slice ho11; injection he with _ _ he; omega
    have hA11 : All w11 [(A11, os), (A10, zs), (A6, ys), (A2, ys)] := ⟨Rd.of_own ho11, (hA10.1).below hb11, (hA10.2.1).below hb11, (hA10.2.2.1).below hb11, trivial⟩
    have hT11 := below_seq hT10 hb11
    clear hA10 hT10 hb11 ho11
    go_wp2_with fail
    refine (HO28.out _ _ _ (by omega) hc11 hA11.1).mono ?_
    rintro e w12 ⟨A12, c12, rfl, hr12, hb12⟩
    have hA12 : All w12 [(A12, zs), (A11, os), (A10, zs), (A6, ys), (A2, ys)] := ⟨hr12, All.below hb12 _ hA11⟩
    have hT12 := below_seq hT11 hb12
    clear hA11 hT11 hb12 hr12
    go_wp2_with fail
    refine (H23.out _ _ ys _ _ _ (by omega) hA12.2.2.2.2.1 hA12.2.2.2.1).mono ?_
    rintro e w13 ⟨rfl, n13, rfl⟩
    have hT13 := below_drewN' hT12 n13
    have hA13 : All (w12.drewN n13) [(A12, zs), (A11, os), (A10, zs)] := ⟨hA12.1, hA12.2.1, hA12.2.2.1, trivial⟩
    clear hA12 hT12
    generalize w12.drewN n13 = w13 at *
    go_wp2_with fail
    refine (H23.out _ _ zs _ _ _ (by omega) hA13.2.2.1 hA13.1).mono ?_
    rintro e w14 ⟨rfl, n14, rfl⟩
    have hT14 := below_drewN' hT13 n14
    clear hA13 hT13
    generalize w13.drewN n14 = w14 at *
    go_wp2_with fail
    refine (works_any _).mono ?_
    rintro e w15 ⟨rfl, hb15⟩
    have hT15 := below_seq hT14 hb15
    clear hT14 hb15
    go_wp2
    go_ret
    exact ⟨rfl, hT15⟩
end Go.Proofs.Ytnbnghihmophpaa
