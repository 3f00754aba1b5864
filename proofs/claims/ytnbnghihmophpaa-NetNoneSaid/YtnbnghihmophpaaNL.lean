/- The net: NetNone's walk. -/
import Derived.Test.YtnbnghihmophpaaNK
namespace Go.Proofs.Ytnbnghihmophpaa
open Go.RowKit
set_option maxRecDepth 20000
set_option maxHeartbeats 4000000
set_option linter.unusedVariables false
set_option linter.unusedSimpArgs false

theorem yielded_undef : yielded.match_1 (fun _ => Option Bool) (some undef) (fun b => some b) (fun _ => none) = none := rfl
attribute [local go_sem] yielded_undef
theorem undef_bool {b : Bool} (h : some undef = some (Value.bool b)) : False := by simp [undef] at h
theorem new_none (w : World) : Calls Try.prog 49 #[.slice none 0 0] w fun e w' => ∃ b F, e = .returned (.pointer (some ⟨b, 0, none⟩)) ∧ NetAt w.heap.size w' b (newNet []) F (.slice none 0 0) (.slice none 0 0) ∧ Below w.heap.size w w' :=
  new_any none 0 [] w (by simp) (by intro j hj; simp [fcells] at hj) (fun _ => ⟨rfl, rfl⟩)
theorem netNone_walk (d t : Int) (A : Option Addr) (n c : Nat) (w : World) : Calls Try.prog 15 #[.agg #[.int .i64 d, .int .i64 t, .slice A n c]] w fun e w' => e = .returned (.bool true) ∧ Below w.heap.size w w' := by
  have HWK := Lib.hid netWorks_any
  have HNW := Lib.hid new_none
  by_cases hn : 100 < n
  · have hd : decide ((100 : Int) < n) = true := by simp; omega
    go_enter Try.func15, Try.ntmps15
    go_wp2_with (go_at_call 48; refine (HWK.out _).mono ?_; rintro e w1 ⟨rfl, hb1⟩)
    go_ret
    exact ⟨rfl, below_then ((Below.refl _ w).alloc (Nat.le_refl _) _) (by simp) hb1⟩
  · have hd : decide ((100 : Int) < n) = false := by simp; omega
    by_cases ht : t = 0 ∨ t = 1
    · rcases ht with rfl | rfl
      all_goals
        go_enter Try.func15, Try.ntmps15
        go_wp2_with (first
          | (go_at_call 49; refine (HNW.out _).mono ?_; rintro e w1 ⟨b, F, rfl, hN, hb1⟩
             have hB0 := (Blk.new w 81 _).below hb1 (by simp)
             have q1 := hB0.cell 1
             have q2 := hB0.cell 2
             simp at q1 q2
             have HB1 := Lib.hid (below_then ((Below.refl _ w).alloc (Nat.le_refl _) _) (by simp) hb1)
             clear hN hb1 hB0)
          | (go_at_call 57; refine (send_nil _ _ _).mono ?_; rintro e w2 ⟨rfl, rfl⟩)
          | (go_at_call 52; refine (tick_nil _).mono ?_; rintro e w2 ⟨rfl, rfl⟩)
          | (go_at_call 58; refine (now_nil _).mono ?_; rintro e w2 ⟨rfl, rfl⟩)
          | (go_at_call 54; refine (take_nil _ _).mono ?_; rintro e w2 ⟨rfl, rfl⟩)
          | (go_at_call 59; refine (flying_nil _ _).mono ?_; rintro e w2 ⟨rfl, rfl⟩)
          | (go_at_call 61; refine (counts_nil _).mono ?_; rintro e w2 ⟨rfl, hb2⟩; have HB2 := Lib.hid (HB1.out.trans (hb2.mono HB1.out.size)); clear hb2)
          | (go_at_call 48; refine (HWK.out _).mono ?_; rintro e w3 ⟨rfl, hb3⟩))
        go_ret
        exact ⟨rfl, HB2.out.trans (hb3.mono HB2.out.size)⟩
    · have HODD := Lib.hid (show t ≠ 0 ∧ t ≠ 1 by omega)
      have h0 : (t != 0) = true := by simp; omega
      have h1 : (t != 1) = true := by simp; omega
      clear ht
      go_enter Try.func15, Try.ntmps15
      go_wp2_with (first
          | (go_at_call 49; refine (HNW.out _).mono ?_; rintro e w1 ⟨b, F, rfl, hN, hb1⟩
             have hB0 := (Blk.new w 81 _).below hb1 (by simp)
             have q1 := hB0.cell 1
             have q2 := hB0.cell 2
             simp at q1 q2
             have HN := Lib.hid hN
             have HB1 := Lib.hid (below_then ((Below.refl _ w).alloc (Nat.le_refl _) _) (by simp) hb1)
             clear hN hb1 hB0)
          | (have := HN2; clear this; go_at_call 57; refine (send_odd _ _ _ HODD.out _).mono ?_; rintro e w3 ⟨rfl, rfl⟩)
          | (have := HN2; clear this; go_at_call 54; refine (take_odd _ _ HODD.out _).mono ?_; rintro e w3 ⟨rfl, rfl⟩)
          | (go_at_call 61; refine (counts_any _ _ _ _ _ _ _ HN2.out).mono ?_; rintro e w4 ⟨rfl, hb4⟩; have HB4 := Lib.hid (HB2.out.trans (hb4.mono HB2.out.size)))
          | (go_at_call 57; refine (send_nil _ _ _).mono ?_; rintro e w2 ⟨rfl, rfl⟩)
          | (go_at_call 52; refine (tick_nil _).mono ?_; rintro e w2 ⟨rfl, rfl⟩)
          | (go_at_call 58; refine (now_nil _).mono ?_; rintro e w2 ⟨rfl, rfl⟩)
          | (go_at_call 54; refine (take_nil _ _).mono ?_; rintro e w2 ⟨rfl, rfl⟩)
          | (go_at_call 59; refine (flying_nil _ _).mono ?_; rintro e w2 ⟨rfl, rfl⟩)
          | (go_at_call 61; refine (counts_nil _).mono ?_; rintro e w2 ⟨rfl, hb2⟩; have HB2 := Lib.hid (HB1.out.trans (hb2.mono HB1.out.size))
             have r1 := cell_below q1 hb2
             have r2 := cell_below q2 hb2
             have HN2 := Lib.hid (HN.out.below (by have := HN.out.hb; have := HN.out.blk.lt; omega) hb2)
             clear hb2 q1 q2)
          | (go_at_call 48; refine (HWK.out _).mono ?_; rintro e w5 ⟨rfl, hb5⟩))
      go_ret
      exact ⟨rfl, HB4.out.trans (hb5.mono HB4.out.size)⟩
end Go.Proofs.Ytnbnghihmophpaa
