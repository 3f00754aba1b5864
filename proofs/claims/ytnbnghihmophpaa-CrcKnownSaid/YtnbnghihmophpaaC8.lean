/- Walks: what each digit of a row comes to; rows joined. -/
import Derived.Test.YtnbnghihmophpaaC6
import Derived.Test.YtnbnghihmophpaaCJ
import Derived.StillTailTactics
namespace Go.Proofs.Ytnbnghihmophpaa
open Go.RowKit
set_option maxRecDepth 20000
set_option maxHeartbeats 1000000
set_option linter.unusedVariables false
set_option linter.unusedSimpArgs false

/-- The first n places of a row of 32 hold what each digit comes to, behind k steps. -/
def IsMat (k n : Nat) (cs : Array Value) : Prop := cs.size = 32 ∧ (∀ j, j < n → cs[j]? = some (.int .u32 (Crc.it k (2 ^ j) : Nat))) ∧ ∀ v ∈ cs.toList, v.oneCell' = true
theorem mat_set {k n : Nat} {cs : Array Value} (h : IsMat k n cs) (hn : n < 32) : IsMat k (n + 1) (cs.setIfInBounds n (.int .u32 (Crc.it k (2 ^ n) : Nat))) := by
  refine ⟨by simpa using h.1, fun j hj => ?_, fun v hv => ?_⟩
  · rw [Array.getElem?_setIfInBounds]
    by_cases e : n = j
    · subst e; simp [h.1, hn]
    · rw [if_neg e]; exact h.2.1 j (by omega)
  · rw [Array.toList_setIfInBounds] at hv
    rcases List.mem_or_eq_of_mem_set hv with h1 | h1
    · exact h.2.2 v h1
    · subst h1; rfl
theorem eq_one_nat (x : Nat) : (((x : Int) % 2) == 1) = decide (x % 2 = 1) := by
  rw [Bool.eq_iff_iff]; simp only [beq_iff_eq, decide_eq_true_eq]; omega

theorem of_any (g : Nat) (t : TypeId) (cs : Array Value) (k c : Nat) (w : World) (hc : c < 4294967296) (hb : Blk w g t cs) (hm : IsMat k 32 cs) :
    Calls Try.prog 100 #[.pointer (some ⟨g, 0, none⟩), .int .u32 c] w fun e w' => e = .returned (.int .u32 (Crc.it k c : Nat)) ∧ w = w' := by
  have HB := Lib.hid hb
  have HM := Lib.hid hm
  clear hb hm
  have hk0 : Crc.it k (c % 2 ^ 0) = 0 := by rw [Nat.pow_zero, Nat.mod_one, Crc.it_zero]
  have hk0 := Lib.hid hk0
  go_enter Try.func100, Try.ntmps100
  go_wp2
  go_loop [1, 4, 5] (fun cv ov iv => ∃ i : Nat, i ≤ 32 ∧ iv = .int .i64 i ∧ cv = .int .u32 (c / 2 ^ i : Nat) ∧ ov = .int .u32 (Crc.it k (c % 2 ^ i) : Nat)) (fun cv _ _ => (intOf cv).toNat)
  case atStart => exact ⟨0, by omega, rfl, by simp, by rw [hk0.out]; rfl⟩
  case round =>
    obtain ⟨i, hi, rfl, rfl, rfl⟩ := hrel
    have hpos : 0 < 2 ^ i := Nat.two_pow_pos i
    have hdd : c / 2 ^ (i + 1) = c / 2 ^ i / 2 := by rw [Nat.pow_succ, Nat.div_div_eq_div_mul]
    have hnx := Crc.it_mod_next k c i
    have hlt := Crc.it_lt k (c % 2 ^ i) (Nat.lt_of_le_of_lt (Nat.mod_le _ _) hc)
    have hdl : c / 2 ^ i < 4294967296 := Nat.lt_of_le_of_lt (Nat.div_le_self _ _) hc
    have hz : c / 2 ^ i = 0 → c % 2 ^ i = c := fun h => Nat.mod_eq_of_lt (by
      have := Nat.div_eq_zero_iff.1 h; omega)
    have hi32 : 0 < c / 2 ^ i → i < 32 := fun h => by
      refine Classical.byContradiction fun hge => ?_
      have h32 : (2 : Nat) ^ 32 ≤ 2 ^ i := Nat.pow_le_pow_right (by omega) (by omega)
      have : c / 2 ^ i = 0 := Nat.div_eq_of_lt (by omega)
      omega
    have hpi : i < 32 → 2 ^ i < 4294967296 := fun h => Nat.pow_lt_pow_right (by omega) h
    have HDD := Lib.hid hdd
    have HNX := Lib.hid hnx
    have HZ := Lib.hid hz
    clear hdd hnx hz
    by_cases h0 : 0 < c / 2 ^ i
    · have hi' := hi32 h0
      have hp := hpi hi'
      have hci : w.cell? ⟨g, i, none⟩ = some (.int .u32 (Crc.it k (2 ^ i) : Nat)) := by rw [HB.out.cell, HM.out.2.1 i hi']
      have hltp := Crc.it_lt k (2 ^ i) hp
      clear hi32 hpi hpos hp
      generalize hd : c / 2 ^ i = d at *
      have hand := and_one_u32 d hdl
      have hbit := eq_one_nat d
      generalize Crc.it k (c % 2 ^ i) = o at *
      generalize Crc.it k (2 ^ i) = m at *
      have hxor : bits .xor .u32 (o : Int) (m : Int) = ((o ^^^ m : Nat) : Int) := u32_xor_nat _ _ hlt hltp
      clear hd
      by_cases hodd : d % 2 = 1
      · rw [show decide (d % 2 = 1) = true from by simp [hodd]] at hbit
        have HO := Lib.hid hodd
        clear hodd hlt hltp hc
        go_wp2
        go_round
        case rel => exact ⟨i + 1, by omega, by go_num, by rw [HDD.out]; go_num, by rw [HNX.out, if_pos HO.out]⟩
        case measure => simp [intOf]; omega
      · rw [show decide (d % 2 = 1) = false from by simp [hodd]] at hbit
        have HO := Lib.hid hodd
        clear hodd hlt hltp hc
        go_wp2
        go_round
        case rel => exact ⟨i + 1, by omega, by go_num, by rw [HDD.out]; go_num, by rw [HNX.out, if_neg HO.out]⟩
        case measure => simp [intOf]; omega
    · have hz : c / 2 ^ i = 0 := Nat.eq_zero_of_not_pos h0
      have hfin : Crc.it k (c % 2 ^ i) = Crc.it k c := by rw [HZ.out hz]
      have HF := Lib.hid hfin
      clear hz hfin hi32 hpi hpos hc
      generalize c / 2 ^ i = d at *
      have hd : d = 0 := by omega
      subst hd
      go_wp2
      go_ret
      exact ⟨ret_int (by rw [HF.out]), rfl⟩

def Z32 : Array Value := Array.replicate 32 (.int .u32 0)
theorem z32_size : Z32.size = 32 := by unfold Z32; exact Array.size_replicate
theorem mat_zero (k : Nat) : IsMat k 0 Z32 := ⟨z32_size, fun j h => absurd h (by omega), fun v hv => by
    rw [Z32, Array.toList_replicate] at hv
    rw [List.eq_of_mem_replicate hv]; rfl⟩
theorem build152 (w : World) : (Instr.build 152 #[]).run Try.prog w = .ok (.agg Z32) w := by kernel_rfl

theorem twice_any (g : Nat) (t : TypeId) (cs : Array Value) (k : Nat) (w : World) (hb : Blk w g t cs) (hm : IsMat k 32 cs) :
    Calls Try.prog 99 #[.pointer (some ⟨g, 0, none⟩)] w fun e w' => ∃ cs', e = .returned (.pointer (some ⟨w.heap.size, 0, none⟩)) ∧ Blk w' w.heap.size 152 cs' ∧ IsMat (k + k) 32 cs' ∧ Below w.heap.size w w' := by
  have hbd := build152
  go_enter Try.func99, Try.ntmps99
  go_wp2_with fail
  have hb0 : Below w.heap.size w (w.alloc (.cells Z32 152)) := (Below.refl _ _).alloc (Nat.le_refl _) _
  have hB0 := Blk.new w 152 Z32
  have hg0 := hb.alloc (.cells Z32 152)
  have hgl := hb.lt
  have HM := Lib.hid hm
  clear hbd hm hb
  go_loopw [9] (fun iv wr => ∃ i : Nat, ∃ cs', i ≤ 32 ∧ iv = .int .i64 i ∧ IsMat (k + k) i cs' ∧ Blk wr w.heap.size 152 cs' ∧ Blk wr g t cs ∧ Below w.heap.size w wr) (fun iv _ => 32 - (intOf iv).toNat)
  case atStart => exact ⟨0, Z32, by omega, rfl, mat_zero _, hB0, hg0, hb0⟩
  case round =>
    clear hB0 hg0 hb0
    obtain ⟨i, cs', hi, rfl, hm', hB, hg, hb⟩ := hrel
    by_cases hlt : i < 32
    · have hx := HM.out.2.1 i hlt
      have hci : wr.cell? ⟨g, i, none⟩ = some (.int .u32 (Crc.it k (2 ^ i) : Nat)) := by rw [hg.cell, hx]
      have hlx := Crc.it_lt k (2 ^ i) (Nat.pow_lt_pow_right (by omega) hlt)
      have hof := fun W (h : Blk W g t cs) => of_any g t cs k (Crc.it k (2 ^ i)) W hlx h HM.out
      have hcB : wr.cell? ⟨w.heap.size, i, none⟩ = some (cs'.getD i undef) := by
        rw [hB.cell i, Array.getElem?_eq_getElem (by rw [hm'.1]; omega)]; simp [Array.getD, hm'.1, hlt]
      have hfB := hB.frozen i
      have hS := mat_set hm' hlt
      rw [Crc.it_add] at hS
      have HS := Lib.hid hS
      have HBS := Lib.hid (hB.set_ i (.int .u32 (Crc.it k (Crc.it k (2 ^ i)) : Nat)))
      have HGS := Lib.hid (hg.far (p := ⟨w.heap.size, i, none⟩) (by simp; omega) (.int .u32 (Crc.it k (Crc.it k (2 ^ i)) : Nat)))
      have HLS := Lib.hid (hb.setCell (p := ⟨w.heap.size, i, none⟩) (Nat.le_refl _) (.int .u32 (Crc.it k (Crc.it k (2 ^ i)) : Nat)))
      have HOF := Lib.hid hof
      have HG := Lib.hid hg
      clear hS hB hg hb hm' hx hof hlx
      generalize cs'.getD i undef = u0 at *
      generalize Crc.it k (2 ^ i) = x at *
      generalize Crc.it k x = y at *
      have i3 : (0 : Int) ≤ i := by omega
      have i4 : (i : Int) < 32 := by omega
      go_wp2
      go_quiet (fail)
      go_wp2
      go_still_tail 7, (by kernel_rfl)
      still_call ((HOF.out _ (by exact HG.out)).mono fun _ _ h => ⟨h.1, h.2.symm⟩)
      repeat still_step
      refine wpStill_nil ?_
      change wpList _ _ _ _ _ (wr.drewN nq).drew
      go_wp2
      go_roundw
      case rel => exact ⟨i + 1, _, by omega, by go_num, HS.out, HBS.out, HGS.out, below_drewN' HLS.out _⟩
      case measure => simp [intOf]; omega
    · obtain rfl : i = 32 := by omega
      have H1 := Lib.hid hB
      have H2 := Lib.hid hm'
      have H3 := Lib.hid hb
      clear hB hm' hg hb HM
      go_wp2
      go_ret
      exact ⟨cs', rfl, H1.out, H2.out, H3.out⟩

theorem Blk.ne_ {w : World} {g g' : Nat} {t t' : TypeId} {cs cs' : Array Value} (h : Blk w g t cs) (h' : Blk w g' t' cs') (hne : t ≠ t') : g ≠ g' := by
  rintro rfl
  unfold Blk at h h'
  rw [h] at h'
  injection h' with h'
  injection h' with _ ht
  exact hne ht
theorem grown_below {a b c : World} {row : Option Nat} (h : a.grownBy b row) (k : Below b.heap.size b c) : a.grownBy c row :=
  ⟨k.os.trans h.os, k.tape.trans h.tape, k.output.trans h.output, Nat.le_trans h.size k.size, fun i hi hne => (k.block i (Nat.lt_of_lt_of_le hi h.size)).trans (h.block i hi hne)⟩
theorem grown_set {a w : World} {g : Nat} (h : a.grownBy w (some g)) {p : Addr} (hp : p.block = g ∨ a.heap.size ≤ p.block) (u : Value) : a.grownBy (w.setCell p u) (some g) :=
  ⟨h.os, h.tape, h.output, by simpa [World.setCell] using h.size, fun i hi hne => (Below.heap_setCell w p u i (by
    rintro rfl
    rcases hp with hp | hp
    · exact hne (by rw [hp])
    · omega)).trans (h.block i hi hne)⟩

/-- The captured matrix, so many times done again. -/
theorem double_any (b1 g k n : Nat) (cs : Array Value) (w : World) (hn : n ≤ 1000) (hb : Blk w b1 150 #[.pointer (some ⟨g, 0, none⟩)]) (hg : Blk w g 152 cs) (hm : IsMat k 32 cs) :
    Calls Try.prog 98 #[.int .i64 n, .pointer (some ⟨b1, 0, none⟩)] w fun e w' => ∃ g' cs', e = .returned (.tuple #[]) ∧ Blk w' b1 150 #[.pointer (some ⟨g', 0, none⟩)] ∧ Blk w' g' 152 cs' ∧ IsMat (k * 2 ^ n) 32 cs' ∧ w.grownBy w' (some b1) := by
  go_enter Try.func98, Try.ntmps98
  go_wp2
  go_loopw [4] (fun iv wr => ∃ i g' : Nat, ∃ cs', i ≤ n ∧ iv = .int .i64 i ∧ Blk wr b1 150 #[.pointer (some ⟨g', 0, none⟩)] ∧ Blk wr g' 152 cs' ∧ IsMat (k * 2 ^ i) 32 cs' ∧ w.grownBy wr (some b1)) (fun iv _ => n - (intOf iv).toNat)
  case atStart => exact ⟨0, g, cs, by omega, rfl, hb, hg, by rw [Nat.pow_zero, Nat.mul_one]; exact hm, World.grownBy.refl _ _⟩
  case round =>
    clear hb hg hm
    obtain ⟨i, g', cs', hi, rfl, hb, hg, hm, hgr⟩ := hrel
    by_cases hlt : i < n
    · have hc := hb.cell 0
      have hpow : k * 2 ^ i + k * 2 ^ i = k * 2 ^ (i + 1) := by rw [Nat.pow_succ]; rw [← Nat.mul_assoc]; omega
      have htw := twice_any g' 152 cs' (k * 2 ^ i) wr hg hm
      rw [hpow] at htw
      have HT := Lib.hid htw
      have HB := Lib.hid hb
      have HG := Lib.hid hgr
      have hbl := hb.lt
      clear htw hm hg hb hgr hpow
      have hc : wr.cell? ⟨b1, 0, none⟩ = some (.pointer (some ⟨g', 0, none⟩)) := hc
      go_wp2_with (go_at_call 99; refine HT.out.mono ?_; rintro e w1 ⟨cs2, rfl, hB2, hm2, hbb⟩; have hb1 := HB.out.below hbb hbl; have hc1 : w1.cell? ⟨b1, 0, none⟩ = some (.pointer (some ⟨g', 0, none⟩)) := hb1.cell 0; have hf1 := hb1.frozen 0; have H1 := Lib.hid (hb1.set_ 0 (.pointer (some ⟨wr.heap.size, 0, none⟩))); have H2 := Lib.hid (hB2.far (p := ⟨b1, 0, none⟩) (by simp; omega) (.pointer (some ⟨wr.heap.size, 0, none⟩))); have H3 := Lib.hid hm2; have H4 := Lib.hid (grown_set (grown_below HG.out hbb) (p := ⟨b1, 0, none⟩) (.inl rfl) (.pointer (some ⟨wr.heap.size, 0, none⟩))); clear hb1 hB2 hm2 hbb)
      go_roundw
      case rel => exact ⟨i + 1, _, cs2, by omega, by go_num, H1.out, H2.out, H3.out, H4.out⟩
      case measure => simp [intOf]; omega
    · obtain rfl : i = n := by omega
      have H1 := Lib.hid hb
      have H2 := Lib.hid hg
      have H3 := Lib.hid hm
      have H4 := Lib.hid hgr
      clear hb hg hm hgr
      go_wp2
      go_end0
      exact ⟨g', cs', rfl, H1.out, H2.out, H3.out, H4.out⟩
end Go.Proofs.Ytnbnghihmophpaa
