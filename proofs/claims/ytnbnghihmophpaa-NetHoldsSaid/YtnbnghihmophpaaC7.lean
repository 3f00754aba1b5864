/- The walk of the statement that the check finds changes. -/
import Derived.Test.YtnbnghihmophpaaC6
import Derived.Test.YtnbnghihmophpaaCN
import Derived.StillTailTactics
namespace Go.Proofs.Ytnbnghihmophpaa
open Go.RowKit
set_option maxRecDepth 20000
set_option maxHeartbeats 1000000
set_option linter.unusedVariables false
set_option linter.unusedSimpArgs false

theorem bv_set (ys : List UInt8) (j : Nat) (x : UInt8) : (bv ys).set j (.int .u8 (x.toNat : Nat)) = bv (ys.set j x) := by simp [bv, List.map_set]
theorem xor_byte (a b : UInt8) : bits .xor .u8 (a.toNat : Nat) (b.toNat : Nat) = ((a ^^^ b).toNat : Nat) := by
  rw [u8_xor_nat _ _ a.toNat_lt b.toNat_lt, UInt8.toNat_xor]
def byCells (by_ : Nat → UInt8) : Array Value := #[.int .u8 ((by_ 0).toNat : Nat), .int .u8 ((by_ 1).toNat : Nat), .int .u8 ((by_ 2).toNat : Nat), .int .u8 ((by_ 3).toNat : Nat)]
theorem byCells_eq (f : Nat → UInt8) : ((Array.range 4).map fun i => Value.int .u8 ((f i).toNat : Nat)) = byCells f := by
  apply Array.ext
  · simp [byCells]
  · intro i h1 h2
    have h4 : i < 4 := by simpa using h1
    match i, h4 with
    | 0, _ => simp [byCells]
    | 1, _ => simp [byCells]
    | 2, _ => simp [byCells]
    | 3, _ => simp [byCells]
theorem byCells_at (by_ : Nat → UInt8) (k : Nat) (hk : k < 4) : (byCells by_)[k]? = some (.int .u8 ((by_ k).toNat : Nat)) := by
  match k, hk with
  | 0, _ => rfl
  | 1, _ => rfl
  | 2, _ => rfl
  | 3, _ => rfl

theorem byte_ne0 (b : UInt8) : ((b.toNat : Int) != 0) = (b != 0) := by
  rw [Bool.eq_iff_iff]; simp only [bne_iff_ne, ne_eq]
  constructor
  · intro h e; subst e; exact h rfl
  · intro h e; exact h (UInt8.toNat_inj.1 (by simpa using e))
theorem crcFinds_true (A : Option Addr) (xs : List UInt8) (cap : Nat) (at_ : Int) (by_ : Nat → UInt8) (w : World) (h0 : 0 < xs.length) (hm : xs.length ≤ 2000) (hc : xs.length ≤ cap) (hr : Rd w A (bv xs)) :
    Calls Try.prog 5 #[.slice A xs.length cap, .int .i64 at_, .agg (byCells by_), .bool true] w fun e w' => e = .returned (.bool true) ∧ Below w.heap.size w w' := by
  have hg : decide ((2000 : Int) < xs.length) = false := by simp; omega
  have hg2 : ((xs.length : Int) == 0) = false := by rw [beq_eq_false_iff_ne]; omega
  have hfin := finds xs xs.length (xs.length + 4) by_ (.inl ⟨rfl, rfl⟩)
  have h24 := fun W h => put_any A xs cap W (by omega) hc h
  have hlen : (xs ++ be4 (Crc.sum xs)).length = xs.length + 4 := by rw [List.length_append]; rfl
  generalize xs ++ be4 (Crc.sum xs) = ys at *
  rw [hlen] at h24
  have hp : (0 : Int) < xs.length := by omega
  have H24 := Lib.hid h24
  have HL := Lib.hid hlen
  have HF := Lib.hid hfin
  clear h24 hlen hfin
  have hbox := Blk.new w 34 (byCells by_)
  have hb0 : Below w.heap.size w (w.alloc (.cells (byCells by_) 34)) := (Below.refl _ _).alloc (Nat.le_refl _) _
  have hz0 : w.heap.size + 1 = (w.alloc (.cells (byCells by_) 34)).heap.size := by simp
  have HBX := Lib.hid hbox
  have HB0 := Lib.hid hb0
  have HZ0 := Lib.hid hz0
  clear hbox hb0 hz0
  go_enter Try.func5, Try.ntmps5
  go_wp2_with fail
  refine (H24.out _ (hr.below HB0.out)).mono ?_
  rintro e w1 ⟨A2, c2, rfl, ho2, hb2⟩
  obtain ⟨g, cc, hv, hgB, _⟩ := ho2.form (by omega)
  injection hv with hA2 _ hcc2
  subst hA2 hcc2
  have hb1 := below_seq HB0.out hb2
  have hbx1 : Blk w1 w.heap.size 34 (byCells by_) := HBX.out.below hb2 (by rw [← HZ0.out]; omega)
  have HRW := Lib.hid hr
  have hgB' : w.heap.size < g := by have := HZ0.out; omega
  rw [← HZ0.out] at ho2
  clear hb2 HBX HB0 HZ0 hr hgB
  have HO := Lib.hid ho2
  have HB := Lib.hid hb1
  have HX := Lib.hid hbx1
  clear ho2 hb1 hbx1
  go_wp2_with fail
  go_loopw [11, 12] (fun cv i wr => ∃ k : Nat, k ≤ 4 ∧ i = .int .i64 k ∧ cv = .bool (ch xs.length (xs.length + 4) by_ k) ∧ wr.ownsRow (w.heap.size + 1) 5 1 (.slice (some ⟨g, 0, none⟩) (xs.length + 4) c2) (xs.length + 4) (bv (pt ys xs.length (xs.length + 4) by_ k)) ∧ Blk wr w.heap.size 34 (byCells by_) ∧ Below w.heap.size w wr) (fun _ i _ => 4 - (intOf i).toNat)
  case atStart => exact ⟨0, by omega, rfl, rfl, HO.out, HX.out, HB.out⟩
  case round =>
    clear HO HX HB
    obtain ⟨k, hk, rfl, rfl, ho, hx, hb⟩ := hrel
    by_cases hlt : k < 4
    · have hpl := pt_length ys xs.length (xs.length + 4) by_ k
      rw [HL.out] at hpl
      have hd : decide ((k : Int) < 4) = true := by simp; omega
      have hd2 : decide ((xs.length : Int) + k < (xs.length : Int) + 4) = true := by simp; omega
      have hq : xs.length + k < xs.length + 4 := by omega
      have hS : pt ys xs.length (xs.length + 4) by_ (k + 1) = (pt ys xs.length (xs.length + 4) by_ k).set (xs.length + k) ((pt ys xs.length (xs.length + 4) by_ k).getD (xs.length + k) 0 ^^^ by_ k) := by simp only [pt]; rw [if_pos hq]
      have hC : ch xs.length (xs.length + 4) by_ (k + 1) = (ch xs.length (xs.length + 4) by_ k || (by_ k != 0)) := by simp only [ch]; rw [if_pos hq]
      have hxc : wr.cell? ⟨w.heap.size, k, none⟩ = some (.int .u8 ((by_ k).toNat : Nat)) := by rw [hx.cell, byCells_at by_ k hlt]
      generalize pt ys xs.length (xs.length + 4) by_ k = zs at *
      generalize ch xs.length (xs.length + 4) by_ k = c at *
      have hsc : wr.cell? ⟨g, xs.length + k, none⟩ = some (.int .u8 ((zs.getD (xs.length + k) 0).toNat : Nat)) := by
        rw [ho.cellAt (xs.length + k) (by omega), getD_at zs _ (by omega)]
        simp [bv, List.getElem?_eq_getElem (show xs.length + k < zs.length by omega)]
      have hsf := ho.frozenAt (xs.length + k)
      have hst := ho.stored (xs.length + k) (.int .u8 ((zs.getD (xs.length + k) 0 ^^^ by_ k).toNat : Nat))
      rw [bv_set] at hst
      have hxo := xor_byte (zs.getD (xs.length + k) 0) (by_ k)
      rw [UInt8.toNat_xor] at hst hxo
      have HS := Lib.hid hS
      have HC := Lib.hid hC
      have HT := Lib.hid hst.1
      have HX := Lib.hid (hx.grown hst.2 (by simp; omega))
      have HB := Lib.hid (hb.setCell (p := ⟨g, xs.length + k, none⟩) (by simp; omega) (.int .u8 ((zs.getD (xs.length + k) 0).toNat ^^^ (by_ k).toNat : Nat)))
      clear hS hC hst hx hb ho hpl
      generalize zs.getD (xs.length + k) 0 = z at *
      go_wp2_with (go_at_call 29; refine (pick_any at_ xs.length _ h0 (by omega)).mono ?_; rintro e w9 ⟨rfl, rfl⟩)
      have i0 : (0 : Int) ≤ (xs.length : Int) + k := by omega
      have i1 : (xs.length : Int) + k < (xs.length : Int) + 4 := by omega
      have i2 : ((xs.length : Int) + k).toNat = xs.length + k := by omega
      have i3 : (0 : Int) ≤ k := by omega
      have i4 : (k : Int) < 4 := by omega
      go_still_tail 10, (by kernel_rfl)
      change wpList _ _ _ _ _ wr.drew
      go_wp2
      · go_roundw
        case rel => exact ⟨k + 1, by omega, by go_num, by rw [HC.out, show c = true from ‹_›]; rfl, by rw [HS.out]; exact HT.out, HX.out, HB.out.drew⟩
        case measure => simp [intOf]; omega
      · go_roundw
        case rel => exact ⟨k + 1, by omega, by go_num, by rw [HC.out, byte_ne0, show c = false from Bool.eq_false_iff.2 ‹_›]; rfl, by rw [HS.out]; exact HT.out, HX.out, HB.out.drew⟩
        case measure => simp [intOf]; omega
    · obtain rfl : k = 4 := by omega
      have hpl := pt_length ys xs.length (xs.length + 4) by_ 4
      rw [HL.out] at hpl
      have hok := HF.out
      clear HF
      generalize pt ys xs.length (xs.length + 4) by_ 4 = zs at *
      generalize ch xs.length (xs.length + 4) by_ 4 = c at *
      have hr2 := Rd.of_own ho
      have hcap : xs.length + 4 ≤ c2 := by obtain ⟨_, _, he, hle, _⟩ := own_slice ho; injection he with _ _ he; omega
      have hbl : (zs.take xs.length).length = xs.length := by rw [List.length_take]; omega
      have h26 := fun W (h : Rd W (some ⟨g, 0, none⟩) (bv zs)) => open_long (some ⟨g, 0, none⟩) (zs.take xs.length) (zs.drop xs.length) c2 W (by rw [List.length_drop]; omega) (by omega) (by omega) (by rw [List.take_append_drop]; exact h) _ hok.1
      rw [hbl] at h26
      have H26 := Lib.hid h26
      have HBL := Lib.hid hbl
      have HB := Lib.hid hb
      have hsame : ∀ W A', Rd W A' (bv xs) → Rd W A (bv xs) → ∀ c', Calls Try.prog 23 #[.slice A' xs.length c', .slice A xs.length cap] W fun e w' => e = .returned (.bool true) ∧ ∃ n, w' = W.drewN n := fun W A' h h' c' => by
        have := same_any A' A xs xs c' cap W (by omega) (by omega) h h'
        simpa only [beq_self_eq_true] using this
      have HSM := Lib.hid hsame
      clear h26 hbl hx ho hb hsame hpl
      cases c
      · have hzs := hok.2 rfl
        have HZ := Lib.hid hzs
        clear hok hzs
        go_wp2_with fail
        refine (H26.out _ hr2).mono ?_
        rintro e w3 ⟨hb3, hy, _⟩
        obtain ⟨A3, c3, rfl, ho3⟩ := hy rfl
        rw [HBL.out] at ho3
        rw [HBL.out]
        rw [HZ.out] at ho3
        have hT := below_seq HB.out hb3
        have hr3 := Rd.of_own ho3
        clear hy ho3 hb3 hr2
        go_wp2_with fail
        refine (HSM.out _ _ hr3 (HRW.out.below hT) _).mono ?_
        rintro e w4 ⟨rfl, n4, rfl⟩
        have hT4 := below_drewN' hT n4
        clear hT hr3
        go_wp2_with fail
        refine (works_any _).mono ?_
        rintro e w5 ⟨rfl, hb5⟩
        have HT5 := Lib.hid (below_seq hT4 hb5)
        clear hT4 hb5
        go_wp2
        go_ret
        exact ⟨rfl, HT5.out⟩
      · have HOK := Lib.hid hok
        clear hok
        go_wp2_with fail
        refine (H26.out _ hr2).mono ?_
        rintro e w3 ⟨hb3, _, hn⟩
        obtain rfl := hn rfl
        have hT := below_seq HB.out hb3
        clear hn hb3 hr2
        go_wp2_with fail
        refine (works_any _).mono ?_
        rintro e w4 ⟨rfl, hb4⟩
        have HT4 := Lib.hid (below_seq hT hb4)
        clear hT hb4
        go_wp2
        go_ret
        exact ⟨rfl, HT4.out⟩
theorem crcFinds_false (A : Option Addr) (xs : List UInt8) (cap : Nat) (at_ : Int) (by_ : Nat → UInt8) (w : World) (h0 : 0 < xs.length) (hm : xs.length ≤ 2000) (hc : xs.length ≤ cap) (hr : Rd w A (bv xs)) :
    Calls Try.prog 5 #[.slice A xs.length cap, .int .i64 at_, .agg (byCells by_), .bool false] w fun e w' => e = .returned (.bool true) ∧ Below w.heap.size w w' := by
  have hg : decide ((2000 : Int) < xs.length) = false := by simp; omega
  have hg2 : ((xs.length : Int) == 0) = false := by rw [beq_eq_false_iff_ne]; omega
  have hpl := pk_lt at_ xs.length h0 (by omega)
  have h29 := fun W => pick_any at_ xs.length W h0 (by omega)
  generalize pk at_ xs.length = p at *
  have H29 := Lib.hid h29
  clear h29
  have hfin := finds xs p xs.length by_ (.inr ⟨hpl, rfl⟩)
  have h24 := fun W h => put_any A xs cap W (by omega) hc h
  have hlen : (xs ++ be4 (Crc.sum xs)).length = xs.length + 4 := by rw [List.length_append]; rfl
  generalize xs ++ be4 (Crc.sum xs) = ys at *
  rw [hlen] at h24
  have hp : (0 : Int) < xs.length := by omega
  have H24 := Lib.hid h24
  have HL := Lib.hid hlen
  have HF := Lib.hid hfin
  clear h24 hlen hfin
  have hbox := Blk.new w 34 (byCells by_)
  have hb0 : Below w.heap.size w (w.alloc (.cells (byCells by_) 34)) := (Below.refl _ _).alloc (Nat.le_refl _) _
  have hz0 : w.heap.size + 1 = (w.alloc (.cells (byCells by_) 34)).heap.size := by simp
  have HBX := Lib.hid hbox
  have HB0 := Lib.hid hb0
  have HZ0 := Lib.hid hz0
  clear hbox hb0 hz0
  go_enter Try.func5, Try.ntmps5
  go_wp2_with fail
  refine (H24.out _ (hr.below HB0.out)).mono ?_
  rintro e w1 ⟨A2, c2, rfl, ho2, hb2⟩
  obtain ⟨g, cc, hv, hgB, _⟩ := ho2.form (by omega)
  injection hv with hA2 _ hcc2
  subst hA2 hcc2
  have hb1 := below_seq HB0.out hb2
  have hbx1 : Blk w1 w.heap.size 34 (byCells by_) := HBX.out.below hb2 (by rw [← HZ0.out]; omega)
  have HRW := Lib.hid hr
  have hgB' : w.heap.size < g := by have := HZ0.out; omega
  rw [← HZ0.out] at ho2
  clear hb2 HBX HB0 HZ0 hr hgB
  have HO := Lib.hid ho2
  have HB := Lib.hid hb1
  have HX := Lib.hid hbx1
  clear ho2 hb1 hbx1
  go_wp2_with fail
  go_loopw [11, 12] (fun cv i wr => ∃ k : Nat, k ≤ 4 ∧ i = .int .i64 k ∧ cv = .bool (ch p xs.length by_ k) ∧ wr.ownsRow (w.heap.size + 1) 5 1 (.slice (some ⟨g, 0, none⟩) (xs.length + 4) c2) (xs.length + 4) (bv (pt ys p xs.length by_ k)) ∧ Blk wr w.heap.size 34 (byCells by_) ∧ Below w.heap.size w wr) (fun _ i _ => 4 - (intOf i).toNat)
  case atStart => exact ⟨0, by omega, rfl, rfl, HO.out, HX.out, HB.out⟩
  case round =>
    clear HO HX HB
    obtain ⟨k, hk, rfl, rfl, ho, hx, hb⟩ := hrel
    by_cases hlt : k < 4
    · have hptl := pt_length ys p xs.length by_ k
      rw [HL.out] at hptl
      have hd : decide ((k : Int) < 4) = true := by simp; omega
      by_cases hpk : p + k < xs.length
      · have hd2 : decide ((p : Int) + k < (xs.length : Int) + 4) = true := by simp; omega
        have hd3 : decide ((p : Int) + k < (xs.length : Int)) = true := by simp; omega
        have hq : p + k < xs.length := hpk
        have hS : pt ys p xs.length by_ (k + 1) = (pt ys p xs.length by_ k).set (p + k) ((pt ys p xs.length by_ k).getD (p + k) 0 ^^^ by_ k) := by simp only [pt]; rw [if_pos hq]
        have hC : ch p xs.length by_ (k + 1) = (ch p xs.length by_ k || (by_ k != 0)) := by simp only [ch]; rw [if_pos hq]
        have hxc : wr.cell? ⟨w.heap.size, k, none⟩ = some (.int .u8 ((by_ k).toNat : Nat)) := by rw [hx.cell, byCells_at by_ k hlt]
        generalize pt ys p xs.length by_ k = zs at *
        generalize ch p xs.length by_ k = c at *
        have hsc : wr.cell? ⟨g, p + k, none⟩ = some (.int .u8 ((zs.getD (p + k) 0).toNat : Nat)) := by
          rw [ho.cellAt (p + k) (by omega), getD_at zs _ (by omega)]
          simp [bv, List.getElem?_eq_getElem (show p + k < zs.length by omega)]
        have hsf := ho.frozenAt (p + k)
        have hst := ho.stored (p + k) (.int .u8 ((zs.getD (p + k) 0 ^^^ by_ k).toNat : Nat))
        rw [bv_set] at hst
        have hxo := xor_byte (zs.getD (p + k) 0) (by_ k)
        rw [UInt8.toNat_xor] at hst hxo
        have HS := Lib.hid hS
        have HC := Lib.hid hC
        have HT := Lib.hid hst.1
        have HX := Lib.hid (hx.grown hst.2 (by simp; omega))
        have HB := Lib.hid (hb.setCell (p := ⟨g, p + k, none⟩) (by simp; omega) (.int .u8 ((zs.getD (p + k) 0).toNat ^^^ (by_ k).toNat : Nat)))
        clear hS hC hst hx hb ho hptl
        generalize zs.getD (p + k) 0 = z at *
        go_wp2_with (go_at_call 29; refine (H29.out _).mono ?_; rintro e w9 ⟨rfl, rfl⟩)
        have i0 : (0 : Int) ≤ (p : Int) + k := by omega
        have i1 : (p : Int) + k < (xs.length : Int) + 4 := by omega
        have i2 : ((p : Int) + k).toNat = p + k := by omega
        have i3 : (0 : Int) ≤ k := by omega
        have i4 : (k : Int) < 4 := by omega
        go_still_tail 10, (by kernel_rfl)
        change wpList _ _ _ _ _ wr.drew
        go_wp2
        · go_roundw
          case rel => exact ⟨k + 1, by omega, by go_num, by rw [HC.out, show c = true from ‹_›]; rfl, by rw [HS.out]; exact HT.out, HX.out, HB.out.drew⟩
          case measure => simp [intOf]; omega
        · go_roundw
          case rel => exact ⟨k + 1, by omega, by go_num, by rw [HC.out, byte_ne0, show c = false from Bool.eq_false_iff.2 ‹_›]; rfl, by rw [HS.out]; exact HT.out, HX.out, HB.out.drew⟩
          case measure => simp [intOf]; omega
      · have hd2 : decide ((p : Int) + k < (xs.length : Int) + 4) = true := by simp; omega
        have hd3 : decide ((p : Int) + k < (xs.length : Int)) = false := by simp; omega
        have hS : pt ys p xs.length by_ (k + 1) = pt ys p xs.length by_ k := by simp only [pt]; rw [if_neg hpk]
        have hC : ch p xs.length by_ (k + 1) = ch p xs.length by_ k := by simp only [ch]; rw [if_neg hpk]
        have HS := Lib.hid hS
        have HC := Lib.hid hC
        have HT := Lib.hid ho
        have HX := Lib.hid hx
        have HB := Lib.hid hb
        clear hS hC hx hb ho hptl
        go_wp2_with (go_at_call 29; refine (H29.out _).mono ?_; rintro e w9 ⟨rfl, rfl⟩)
        go_roundw
        case rel => exact ⟨k + 1, by omega, by go_num, by rw [HC.out], by rw [HS.out]; exact HT.out, HX.out, HB.out⟩
        case measure => simp [intOf]; omega
    · obtain rfl : k = 4 := by omega
      have hptl := pt_length ys p xs.length by_ 4
      rw [HL.out] at hptl
      have hok := HF.out
      clear HF
      generalize pt ys p xs.length by_ 4 = zs at *
      generalize ch p xs.length by_ 4 = c at *
      have hr2 := Rd.of_own ho
      have hcap : xs.length + 4 ≤ c2 := by obtain ⟨_, _, he, hle, _⟩ := own_slice ho; injection he with _ _ he; omega
      have hbl : (zs.take xs.length).length = xs.length := by rw [List.length_take]; omega
      have h26 := fun W (h : Rd W (some ⟨g, 0, none⟩) (bv zs)) => open_long (some ⟨g, 0, none⟩) (zs.take xs.length) (zs.drop xs.length) c2 W (by rw [List.length_drop]; omega) (by omega) (by omega) (by rw [List.take_append_drop]; exact h) _ hok.1
      rw [hbl] at h26
      have H26 := Lib.hid h26
      have HBL := Lib.hid hbl
      have HB := Lib.hid hb
      have hsame : ∀ W A', Rd W A' (bv xs) → Rd W A (bv xs) → ∀ c', Calls Try.prog 23 #[.slice A' xs.length c', .slice A xs.length cap] W fun e w' => e = .returned (.bool true) ∧ ∃ n, w' = W.drewN n := fun W A' h h' c' => by
        have := same_any A' A xs xs c' cap W (by omega) (by omega) h h'
        simpa only [beq_self_eq_true] using this
      have HSM := Lib.hid hsame
      clear h26 hbl hx ho hb hsame hptl
      cases c
      · have hzs := hok.2 rfl
        have HZ := Lib.hid hzs
        clear hok hzs
        go_wp2_with fail
        refine (H26.out _ hr2).mono ?_
        rintro e w3 ⟨hb3, hy, _⟩
        obtain ⟨A3, c3, rfl, ho3⟩ := hy rfl
        rw [HBL.out] at ho3
        rw [HBL.out]
        rw [HZ.out] at ho3
        have hT := below_seq HB.out hb3
        have hr3 := Rd.of_own ho3
        clear hy ho3 hb3 hr2
        go_wp2_with fail
        refine (HSM.out _ _ hr3 (HRW.out.below hT) _).mono ?_
        rintro e w4 ⟨rfl, n4, rfl⟩
        have hT4 := below_drewN' hT n4
        clear hT hr3
        go_wp2_with fail
        refine (works_any _).mono ?_
        rintro e w5 ⟨rfl, hb5⟩
        have HT5 := Lib.hid (below_seq hT4 hb5)
        clear hT4 hb5
        go_wp2
        go_ret
        exact ⟨rfl, HT5.out⟩
      · have HOK := Lib.hid hok
        clear hok
        go_wp2_with fail
        refine (H26.out _ hr2).mono ?_
        rintro e w3 ⟨hb3, _, hn⟩
        obtain rfl := hn rfl
        have hT := below_seq HB.out hb3
        clear hn hb3 hr2
        go_wp2_with fail
        refine (works_any _).mono ?_
        rintro e w4 ⟨rfl, hb4⟩
        have HT4 := Lib.hid (below_seq hT hb4)
        clear hT hb4
        go_wp2
        go_ret
        exact ⟨rfl, HT4.out⟩

theorem crcFinds_walk (A : Option Addr) (xs : List UInt8) (cap : Nat) (at_ : Int) (by_ : Nat → UInt8) (check : Bool) (w : World) (hm : xs.length ≤ 9223372036854775807) (hc : xs.length ≤ cap) (hr : Rd w A (bv xs)) :
    Calls Try.prog 5 #[.slice A xs.length cap, .int .i64 at_, .agg (byCells by_), .bool check] w fun e w' => e = .returned (.bool true) ∧ Below w.heap.size w w' := by
  by_cases hb : 2000 < xs.length
  · have hg : decide ((2000 : Int) < xs.length) = true := by simp; omega
    have hb0 : Below w.heap.size w (w.alloc (.cells (byCells by_) 34)) := (Below.refl _ _).alloc (Nat.le_refl _) _
    have HB0 := Lib.hid hb0
    clear hr hb0
    go_enter Try.func5, Try.ntmps5
    go_wp2_with fail
    refine (works_any _).mono ?_
    rintro e w1 ⟨rfl, hb1⟩
    have HB1 := Lib.hid (below_seq HB0.out hb1)
    clear hb1
    go_wp2
    go_ret
    exact ⟨rfl, HB1.out⟩
  · rcases Nat.eq_zero_or_pos xs.length with h0 | h0
    · have hg : decide ((2000 : Int) < xs.length) = false := by simp; omega
      have hg2 : ((xs.length : Int) == 0) = true := by rw [beq_iff_eq]; omega
      have hb0 : Below w.heap.size w (w.alloc (.cells (byCells by_) 34)) := (Below.refl _ _).alloc (Nat.le_refl _) _
      have HB0 := Lib.hid hb0
      clear hr hb0 h0
      go_enter Try.func5, Try.ntmps5
      go_wp2_with fail
      refine (works_any _).mono ?_
      rintro e w1 ⟨rfl, hb1⟩
      have HB1 := Lib.hid (below_seq HB0.out hb1)
      clear hb1
      go_wp2
      go_ret
      exact ⟨rfl, HB1.out⟩
    · cases check
      · exact crcFinds_false A xs cap at_ by_ w h0 (by omega) hc hr
      · exact crcFinds_true A xs cap at_ by_ w h0 (by omega) hc hr
end Go.Proofs.Ytnbnghihmophpaa
