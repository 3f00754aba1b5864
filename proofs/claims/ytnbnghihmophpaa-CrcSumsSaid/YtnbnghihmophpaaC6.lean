/- The walks of the statements of chapter 2. -/
import Derived.Test.YtnbnghihmophpaaC5
namespace Go.Proofs.Ytnbnghihmophpaa
open Go.RowKit
set_option maxRecDepth 20000
set_option maxHeartbeats 1000000
set_option linter.unusedVariables false
set_option linter.unusedSimpArgs false

theorem crcSums_walk (c : Nat) (A : Option Addr) (xs : List UInt8) (cap : Nat) (w : World) (h1 : c < 4294967296) (hm : xs.length ≤ 9223372036854775807) (hr : Rd w A (bv xs)) :
    Calls Try.prog 3 #[.int .u32 c, .slice A xs.length cap] w fun e w' => e = .returned (.bool true) ∧ Below w.heap.size w w' := by
  by_cases hbig : 3000 < xs.length
  · have hb' : (3000 : Int) < xs.length := by omega
    clear hr h1
    go_enter Try.func3, Try.ntmps3
    go_wp2_with (go_at_call 17; refine (works_any _).mono ?_; rintro e w1 ⟨rfl, hb⟩)
    go_ret
    exact ⟨rfl, hb⟩
  · have hb' : ¬ (3000 : Int) < xs.length := by omega
    have hsame : (xs == xs) = true := by simp
    generalize hs : Crc.sum xs = s at *
    generalize hu : Crc.upd c xs = u at *
    have h19 := fun W hr => sum_any A xs cap W hm hr
    have h20 := fun W A cap hr => refSum_any A xs cap W hm hr
    have h21 := fun W hr => update_any c A xs cap W h1 hm hr
    have h22 := fun W A cap hr => refUpdate_any c A xs cap W h1 hm hr
    have h23 := fun W A' c' hr' hr => same_any A' A xs xs c' cap W hm hm hr' hr
    rw [hsame] at h23
    rw [hs] at h19 h20
    rw [hu] at h21 h22
    have H19 := Lib.hid h19
    have H20 := Lib.hid h20
    have H21 := Lib.hid h21
    have H22 := Lib.hid h22
    have H23 := Lib.hid h23
    clear h19 h20 h21 h22 h23 hs hu hsame h1
    go_enter Try.func3, Try.ntmps3
    go_wp2_with (first
      | (go_at_call 18; refine (own_any A xs cap w (by omega) hr).mono ?_; rintro e w1 ⟨A1, c1, rfl, hown, hb1⟩)
      | (go_at_call 19; refine (H19.out _ (hr.below hb1)).mono ?_; rintro e w2 ⟨rfl, hb2⟩)
      | (go_at_call 20; refine (H20.out _ _ _ ((Rd.of_own hown).below hb2)).mono ?_; rintro e w3 ⟨rfl, rfl⟩)
      | (go_at_call 21; refine (H21.out _ (hr.below (below_seq hb1 hb2))).mono ?_; rintro e w4 ⟨rfl, hb4⟩)
      | (go_at_call 22; refine (H22.out _ _ _ ((Rd.of_own hown).below (below_seq hb2 hb4))).mono ?_; rintro e w5 ⟨rfl, rfl⟩)
      | (go_at_call 23; refine (H23.out _ _ _ ((Rd.of_own hown).below (below_seq hb2 hb4)) (hr.below (below_seq hb1 (below_seq hb2 hb4)))).mono ?_; rintro e w6 ⟨rfl, n, rfl⟩)
      | (go_at_call 17; refine (works_any _).mono ?_; rintro e w7 ⟨rfl, hb7⟩))
    go_ret
    exact ⟨rfl, below_seq (below_drewN' (below_seq hb1 (below_seq hb2 hb4)) n) hb7⟩
end Go.Proofs.Ytnbnghihmophpaa
