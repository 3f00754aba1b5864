/- The net: a tick, the counts, and a net that is not there. -/
import Derived.Test.YtnbnghihmophpaaN8
namespace Go.Proofs.Ytnbnghihmophpaa
open Go.RowKit
set_option maxRecDepth 20000
set_option maxHeartbeats 4000000
set_option linter.unusedVariables false
set_option linter.unusedSimpArgs false

theorem tick_any (base b : Nat) (s : NS) (F v0 v1 : Value) (w : World) (h : NetAt base w b s F v0 v1) (hnow : s.now ≤ 18446744073709551615) :
    Calls Try.prog 52 #[.pointer (some ⟨b, 0, none⟩)] w fun e w' => e = .returned (.int .u64 (sat s.now)) ∧ NetAt base w' b { s with now := sat s.now } F v0 v1 ∧ Fr base w w' := by
  obtain ⟨-, -, c2, -, -⟩ := h.c0
  have hf := h.blk.frozen 2
  have hone := Lib.hid (h.one (s' := { s with now := sat s.now }) 2 (.int .u64 (sat s.now)) rfl rfl rfl rfl)
  by_cases hlt : s.now < 18446744073709551615
  · have hs : sat s.now = s.now + 1 := if_pos hlt
    have hd : decide ((s.now : Int) < 18446744073709551615) = true := by simp; omega
    have hw : IntKind.u64.wrap ((s.now : Int) + 1) = ((s.now + 1 : Nat) : Int) := by rw [IntKind.wrap_u64]; omega
    have HS := Lib.hid hs
    clear h hs
    go_enter Try.func52, Try.ntmps52
    go_wp2
    go_ret
    have ho := hone.out
    rw [HS.out] at ho ⊢
    exact ⟨rfl, ho⟩
  · have hs : sat s.now = s.now := if_neg hlt
    have hd : decide ((s.now : Int) < 18446744073709551615) = false := by simp; omega
    have HH := Lib.hid h
    have HS := Lib.hid hs
    clear h hs
    go_enter Try.func52, Try.ntmps52
    go_wp2
    go_ret
    rw [HS.out]
    exact ⟨rfl, HH.out, Fr.refl _ _⟩
theorem tick_nil (w : World) : Calls Try.prog 52 #[.pointer none] w fun e w' => e = .returned (.int .u64 0) ∧ w = w' := by
  go_enter Try.func52, Try.ntmps52
  go_wp2
  go_ret
  exact ⟨rfl, rfl⟩
theorem now_nil (w : World) : Calls Try.prog 58 #[.pointer none] w fun e w' => e = .returned (.int .u64 0) ∧ w = w' := by
  go_enter Try.func58, Try.ntmps58
  go_wp2
  go_ret
  exact ⟨rfl, rfl⟩
theorem flying_nil (x : Value) (w : World) : Calls Try.prog 59 #[.pointer none, x] w fun e w' => e = .returned (.int .i64 0) ∧ w = w' := by
  go_enter Try.func59, Try.ntmps59
  go_wp2
  go_ret
  exact ⟨rfl, rfl⟩
theorem send_nil (x y : Value) (w : World) : Calls Try.prog 57 #[.pointer none, x, y] w fun e w' => e = .returned (.int .i64 1) ∧ w = w' := by
  go_enter Try.func57, Try.ntmps57
  go_wp2
  go_ret
  exact ⟨rfl, rfl⟩
theorem take_nil (x : Value) (w : World) : Calls Try.prog 54 #[.pointer none, x] w fun e w' => e = .returned (.slice none 0 0) ∧ w = w' := by
  go_enter Try.func54, Try.ntmps54
  go_wp2
  go_ret
  exact ⟨rfl, rfl⟩
theorem send_odd (b : Nat) (k : Int) (y : Value) (hk : k ≠ 0 ∧ k ≠ 1) (w : World) : Calls Try.prog 57 #[.pointer (some ⟨b, 0, none⟩), .int .i64 k, y] w fun e w' => e = .returned (.int .i64 2) ∧ w = w' := by
  have HR := Lib.hid (right_no k hk)
  clear hk
  go_enter Try.func57, Try.ntmps57
  go_wp2_with (go_at_call 85; refine (HR.out _).mono ?_; rintro e wz ⟨rfl, rfl⟩)
  go_ret
  exact ⟨rfl, rfl⟩
theorem take_odd (b : Nat) (k : Int) (hk : k ≠ 0 ∧ k ≠ 1) (w : World) : Calls Try.prog 54 #[.pointer (some ⟨b, 0, none⟩), .int .i64 k] w fun e w' => e = .returned (.slice none 0 0) ∧ w = w' := by
  have HR := Lib.hid (right_no k hk)
  clear hk
  go_enter Try.func54, Try.ntmps54
  go_wp2_with (go_at_call 85; refine (HR.out _).mono ?_; rintro e wz ⟨rfl, rfl⟩)
  go_ret
  exact ⟨rfl, rfl⟩

theorem info94 : (Try.prog.info? 94).map (·.zero) = some (some (.agg #[.int .u64 0, .int .u64 0, .int .u64 0, .int .u64 0])) := by kernel_rfl
theorem counts_nil (w : World) : Calls Try.prog 61 #[.pointer none] w fun e w' => e = .returned (.agg #[.int .u64 0, .int .u64 0, .int .u64 0, .int .u64 0]) ∧ Below w.heap.size w w' := by
  go_enter Try.func61, Try.ntmps61
  go_wp2
  refine ret_cell rfl w.heap.size 94 #[.int .u64 0, .int .u64 0, .int .u64 0, .int .u64 0] _ rfl Try.underlying94 rfl (by kernel_rfl) rfl ?_ ?_
  · exact Blk.new w 94 _
  exact ⟨rfl, (Below.refl _ w).alloc (Nat.le_refl _) _⟩
theorem counts_any (base b : Nat) (s : NS) (F v0 v1 : Value) (w : World) (h : NetAt base w b s F v0 v1) :
    Calls Try.prog 61 #[.pointer (some ⟨b, 0, none⟩)] w fun e w' => e = .returned (.agg #[.int .u64 s.sent, .int .u64 s.lost, .int .u64 s.taken, .int .u64 s.bad]) ∧ Below w.heap.size w w' := by
  have hb := h.blk.lt
  have HZ94 := Lib.hid info94
  have HB := Lib.hid h.blk
  clear h
  go_enter Try.func61, Try.ntmps61
  go_wp2_with (refine wpList_alloc_e rfl 94 rfl _ HZ94.out ?_; intro w1 hb1 hbel1 hs1)
  have hB1 := HB.out.below hbel1 hb
  have HL5 := Lib.hid (fun W (hW : Blk W b 134 (netCells s F v0 v1)) => load_any b 5 s.sent W (by rw [hW.cell]; rfl))
  have HL6 := Lib.hid (fun W (hW : Blk W b 134 (netCells s F v0 v1)) => load_any b 6 s.lost W (by rw [hW.cell]; rfl))
  have HL7 := Lib.hid (fun W (hW : Blk W b 134 (netCells s F v0 v1)) => load_any b 7 s.taken W (by rw [hW.cell]; rfl))
  have HL8 := Lib.hid (fun W (hW : Blk W b 134 (netCells s F v0 v1)) => load_any b 8 s.bad W (by rw [hW.cell]; rfl))
  have HB1 := Lib.hid hB1
  have HBL := Lib.hid hbel1
  have HC1 := Lib.hid hb1
  clear hB1 hbel1
  go_still_tail 21, (by kernel_rfl)
  still_call ((HL5.out _ (by exact HB1.out)).mono fun _ _ h => ⟨h.1, h.2.symm⟩)
  repeat still_step
  still_call ((HL6.out _ (by exact HB1.out)).mono fun _ _ h => ⟨h.1, h.2.symm⟩)
  repeat still_step
  still_call ((HL7.out _ (by exact HB1.out)).mono fun _ _ h => ⟨h.1, h.2.symm⟩)
  repeat still_step
  still_call ((HL8.out _ (by exact HB1.out)).mono fun _ _ h => ⟨h.1, h.2.symm⟩)
  repeat still_step
  refine wpStill_nil ?_
  change wpList _ _ _ _ _ w1.drew
  have hcd : Blk w1.drew w.heap.size 94 _ := HC1.out
  refine wpList_store_all rfl 94 (.tmp 2) (.tmp 26) rfl w.heap.size 94 _ #[.int .u64 s.sent, .int .u64 s.lost, .int .u64 s.taken, .int .u64 s.bad] rfl rfl hcd (by kernel_rfl) rfl (by simp [Value.oneCell']) ?_
  intro w2 hb2 hg2 hs2
  have HB2 := Lib.hid hb2
  have HE := Lib.hid ((HBL.out.drew).grown hg2 HBL.out.size (by simp))
  clear hb2 hg2 hs2
  go_wp2
  refine ret_cell rfl w.heap.size 94 #[.int .u64 s.sent, .int .u64 s.lost, .int .u64 s.taken, .int .u64 s.bad] _ rfl Try.underlying94 rfl (by kernel_rfl) rfl HB2.out ?_
  exact ⟨rfl, HE.out⟩
end Go.Proofs.Ytnbnghihmophpaa
