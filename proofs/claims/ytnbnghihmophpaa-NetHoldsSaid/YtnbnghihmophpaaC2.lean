/- Walks of chapter 2: the table of all bytes' checks; the check by it. -/
import Derived.Test.YtnbnghihmophpaaC1
namespace Go.Proofs.Ytnbnghihmophpaa
open Go.RowKit
set_option maxRecDepth 20000
set_option maxHeartbeats 1000000
set_option linter.unusedVariables false
set_option linter.unusedSimpArgs false

/-- The first k places of a row of 256 hold what each byte comes to. -/
def IsTab (k : Nat) (cs : Array Value) : Prop := cs.size = 256 ∧ (∀ j, j < k → cs[j]? = some (.int .u32 (Crc.it 8 j : Nat))) ∧ ∀ v ∈ cs.toList, v.oneCell' = true
def Z256 : Array Value := Array.replicate 256 (.int .u32 0)
theorem tab_zero : IsTab 0 Z256 := ⟨by unfold Z256; exact Array.size_replicate, fun j h => absurd h (by omega), fun v hv => by
    rw [Z256, Array.toList_replicate] at hv
    rw [List.eq_of_mem_replicate hv]; rfl⟩
theorem tab_set {k : Nat} {cs : Array Value} (h : IsTab k cs) (hk : k < 256) : IsTab (k + 1) (cs.setIfInBounds k (.int .u32 (Crc.it 8 k : Nat))) := by
  refine ⟨by simpa using h.1, fun j hj => ?_, fun v hv => ?_⟩
  · rw [Array.getElem?_setIfInBounds]
    by_cases e : k = j
    · subst e; simp [h.1, hk]
    · rw [if_neg e]; exact h.2.1 j (by omega)
  · rw [Array.toList_setIfInBounds] at hv
    rcases List.mem_or_eq_of_mem_set hv with h1 | h1
    · exact h.2.2 v h1
    · subst h1; rfl
theorem zero99 : (Try.prog.info? 99).map (·.zero) = some (some (.agg Z256)) := by kernel_rfl
theorem size99 : (Try.prog.info? 99).map (·.size) = some 256 := by kernel_rfl

theorem all_any (w : World) :
    Calls Try.prog 62 #[] w fun e w' => ∃ cs, IsTab 256 cs ∧ e = .returned (.agg cs) ∧ Below w.heap.size w w' := by
  go_enter Try.func62, Try.ntmps62
  go_wp2_with (refine wpList_alloc_z rfl 99 rfl Z256 zero99 ?_)
  have hb0 := Blk.new w 99 Z256
  have hbel : Below w.heap.size w (w.alloc (.cells Z256 99)) := (Below.refl _ _).alloc (Nat.le_refl _) _
  have hsz : w.heap.size < (w.alloc (.cells Z256 99)).heap.size := by simp
  generalize (w.alloc (.cells Z256 99)) = w0 at *
  have HB := Lib.hid hb0
  clear hb0
  go_loopw [3] (fun i wr => ∃ k : Nat, ∃ cs, k ≤ 256 ∧ i = .int .i64 k ∧ IsTab k cs ∧ Blk wr w.heap.size 99 cs ∧ Below w.heap.size w wr) (fun i _ => 256 - (intOf i).toNat)
  case atStart => exact ⟨0, Z256, by omega, rfl, tab_zero, HB.out, hbel⟩
  case round =>
    clear HB hbel hsz
    obtain ⟨k, cs, hk, rfl, htab, hblk, hbel⟩ := hrel
    by_cases hlt : k < 256
    · have HT := Lib.hid htab
      have HBl := Lib.hid hblk
      have HBe := Lib.hid hbel
      clear htab hblk hbel
      have hd : decide ((k : Int) < 256) = true := by simp; omega
      go_wp2
      obtain ⟨wo, rfl⟩ : ∃ wo : World, wo = wr := ⟨_, rfl⟩
      go_loop [2, 8] (fun c i => ∃ m : Nat, m ≤ 8 ∧ i = .int .i64 m ∧ c = .int .u32 (Crc.it m k : Nat)) (fun _ i => 8 - (intOf i).toNat)
      case atStart => exact ⟨0, by omega, rfl, rfl⟩
      case round =>
        obtain ⟨m, hm, rfl, rfl⟩ := hrel
        have hl := Crc.it_lt m k (by omega)
        by_cases hm8 : m < 8
        · generalize hxx : Crc.it m k = x at *
          have HX := Lib.hid hxx
          clear hxx
          go_wp2_with (go_at_call 96; refine (digit_any _ _ hl).mono ?_; rintro e w' ⟨rfl, rfl⟩)
          go_round
          case rel => exact ⟨m + 1, by omega, by go_num, by rw [Crc.it, HX.out]⟩
          case measure => simp [intOf]; omega
        · obtain rfl : m = 8 := by omega
          have htab := HT.out
          have hblk := HBl.out
          have hbel := HBe.out
          clear HT HBl HBe
          have hc0 : wo.cell? ⟨w.heap.size, k, none⟩ = some (cs.getD k undef) := by
            rw [hblk.cell k, Array.getElem?_eq_getElem (by rw [htab.1]; omega)]; simp [Array.getD, htab.1, hlt]
          have hf0 := hblk.frozen k
          have HT := Lib.hid (tab_set htab hlt)
          have HBl := Lib.hid (hblk.set_ k (.int .u32 (Crc.it 8 k : Nat)))
          have HBe := Lib.hid (hbel.setCell (p := ⟨w.heap.size, k, none⟩) (Nat.le_refl _) (.int .u32 (Crc.it 8 k : Nat)))
          clear htab hblk hbel hl
          generalize cs.getD k undef = u0 at *
          generalize Crc.it 8 k = x at *
          go_wp2
          go_roundw
          case rel => exact ⟨k + 1, _, by omega, by go_num, HT.out, HBl.out, HBe.out⟩
          case measure => simp [intOf]; omega
    · obtain rfl : k = 256 := by omega
      have HT := Lib.hid htab
      have HBl := Lib.hid hblk
      have HBe := Lib.hid hbel
      have hsz1 : (Try.prog.info? 99).map (·.size) = some cs.size := by rw [htab.1]; exact size99
      have HS := Lib.hid hsz1
      clear htab hblk hbel hsz1
      go_wp2_with (first
        | (refine wpList_load_row rfl 99 _ rfl w.heap.size rfl 99 cs (0, 0) _ HBl.out Try.underlying99 rfl HS.out ?_)
        | (refine wpList_store_row rfl 99 _ _ rfl w.heap.size 0 99 cs cs rfl rfl HBl.out HS.out (by omega) HT.out.2.2 ?_; intro w1 hw1 hg1 _))
      have hcs : ((List.take 0 cs.toList ++ cs.toList ++ List.drop (0 + cs.size) cs.toList)).toArray = cs := by
        rw [List.drop_eq_nil_of_le (by simp)]; simp
      rw [hcs] at hw1
      refine bodyPost_ret (results_cell_row rfl _ _ w.heap.size 99 cs (0, 0) _ rfl hw1 Try.underlying99 rfl HS.out) rfl ⟨cs, HT.out, rfl, HBe.out.grown hg1 HBe.out.size (by simp)⟩

theorem xor_u8 (c x : Nat) (hc : c < 256) (hx : x < 256) : bits .xor .u8 (c : Int) (x : Int) = ((c ^^^ x : Nat) : Int) := u8_xor_nat c x hc hx

theorem update_any (c : Nat) (A : Option Addr) (xs : List UInt8) (cap : Nat) (w : World) (h1 : c < 4294967296) (hm : xs.length ≤ 9223372036854775807) (hr : Rd w A (bv xs)) :
    Calls Try.prog 21 #[.int .u32 c, .slice A xs.length cap] w fun e w' => e = .returned (.int .u32 (Crc.upd c xs)) ∧ Below w.heap.size w w' := by
  have hx0 : bits .xor .u32 IntKind.u32.max c = ((4294967295 - c : Nat) : Int) := by
    rw [← Crc.flip32 c h1]; exact u32_xor_nat 4294967295 c (by omega) h1
  have hc0 : 4294967295 - c < 4294967296 := by omega
  have HF : Hid (bits .xor .u32 IntKind.u32.max (Crc.run (4294967295 - c) xs : Nat) = ((Crc.upd c xs : Nat) : Int)) := by
    have hl := Crc.run_lt (4294967295 - c) xs hc0
    show _ = _
    unfold Crc.upd; rw [← Crc.flip32 _ hl]; exact u32_xor_nat 4294967295 _ (by omega) hl
  clear h1
  go_enter Try.func21, Try.ntmps21
  go_wp2_with (first
    | (go_at_call 62; refine (all_any _).mono ?_; rintro e w1 ⟨cs, htab, rfl, hb1⟩)
    | (refine wpList_alloc_z rfl 99 rfl Z256 zero99 ?_)
    | (refine wpList_store_all rfl 99 _ _ rfl w1.heap.size 99 Z256 cs rfl rfl (Blk.new w1 99 Z256) (by rw [htab.1]; exact size99) (by rw [htab.1, tab_zero.1]) htab.2.2 ?_; intro w2 hB2 hg2 _))
  have hb2 : Below w.heap.size w w2 := ((hb1.alloc hb1.size _).grown hg2 (by simp; have := hb1.size; omega) (by simp; exact hb1.size))
  have hr2 : Rd w2 A (bv xs) := hr.below hb2
  clear hr hx0 hg2 hb1
  have htab' := htab.2.1
  have HT := Lib.hid htab'
  have HB2 := Lib.hid hB2
  have Hb2 := Lib.hid hb2
  clear htab htab' hB2 hb2
  generalize w1.heap.size = B at *
  generalize 4294967295 - c = c0 at *
  go_loop [0, 13] (fun c' i => ∃ k : Nat, k ≤ xs.length ∧ i = .int .i64 k ∧ c' = .int .u32 (Crc.run c0 (xs.take k) : Nat)) (fun _ i => xs.length - (intOf i).toNat)
  case atStart => exact ⟨0, by omega, rfl, rfl⟩
  case round =>
    obtain ⟨k, hk, rfl, rfl⟩ := hrel
    have hl := Crc.run_lt c0 (xs.take k) hc0
    by_cases hlt : k < xs.length
    · obtain ⟨b, off, rfl, hc⟩ := hr2.byte k hlt
      have hu := (xs[k]).toNat_lt
      have HS := Lib.hid (Crc.run_snoc c0 xs k hlt)
      generalize hxx : Crc.run c0 (xs.take k) = x at *
      generalize hyy : xs[k].toNat = y at *
      clear hxx hr2
      have hi : x % 256 ^^^ y < 256 := Nat.xor_lt_two_pow (n := 8) (by omega) (by omega)
      have ha : bits .xor .u8 ((x : Int) % 256) (y : Int) = ((x % 256 ^^^ y : Nat) : Int) := by
        rw [show ((x : Int) % 256) = ((x % 256 : Nat) : Int) from by omega]; exact u8_xor_nat _ _ (by omega) (by omega)
      have hcell : w2.cell? ⟨B, x % 256 ^^^ y, none⟩ = some (.int .u32 (Crc.it 8 (x % 256 ^^^ y) : Nat)) := by
        rw [HB2.out.cell, HT.out _ hi]
      have ht : Crc.it 8 (x % 256 ^^^ y) < 4294967296 := Crc.it_lt _ _ (by omega)
      have hX : bits .xor .u32 (Crc.it 8 (x % 256 ^^^ y) : Nat) ((x : Int) / 256) = ((Crc.step x y : Nat) : Int) := by
        rw [Crc.step_table, show ((x : Int) / 256) = ((x / 256 : Nat) : Int) from by omega]; exact u32_xor_nat _ _ ht (by omega)
      generalize Crc.it 8 (x % 256 ^^^ y) = t at *
      generalize x % 256 ^^^ y = i at *
      go_wp2
      go_round
      case rel => exact ⟨k + 1, by omega, by go_num, by rw [HS.out]⟩
      case measure => simp [intOf]; omega
    · obtain rfl : k = xs.length := by omega
      have HT' := Lib.hid (List.take_length (l := xs))
      generalize xs.take xs.length = ys at *
      clear hr2
      go_wp2
      go_ret
      exact ⟨ret_int (by rw [HT'.out, HF.out]), Hb2.out⟩

theorem sum_any (A : Option Addr) (xs : List UInt8) (cap : Nat) (w : World) (hm : xs.length ≤ 9223372036854775807) (hr : Rd w A (bv xs)) :
    Calls Try.prog 19 #[.slice A xs.length cap] w fun e w' => e = .returned (.int .u32 (Crc.sum xs)) ∧ Below w.heap.size w w' := by
  go_enter Try.func19, Try.ntmps19
  go_wp2_with (go_at_call 21; refine (update_any 0 A xs cap w (by omega) hm hr).mono ?_; rintro e w' ⟨rfl, hb⟩)
  go_ret
  exact ⟨rfl, hb⟩
end Go.Proofs.Ytnbnghihmophpaa
