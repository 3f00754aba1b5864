/- The net: are rows of bytes the texts? -/
import Derived.Test.YtnbnghihmophpaaNF
import Derived.Laws.IdiomStrings
namespace Go.Proofs.Ytnbnghihmophpaa
open Go.RowKit
set_option maxRecDepth 20000
set_option maxHeartbeats 4000000
set_option linter.unusedVariables false
set_option linter.unusedSimpArgs false

def sv (l : List UInt8) : Value := .string ⟨l.toArray⟩
theorem sameT_any (B : Nat) (os : List (Value × List UInt8)) (A Bq : Option Addr) (c cq : Nat) (bs : List (List UInt8)) (w : World) (hn : os.length ≤ 1000000) (hn' : bs.length ≤ 1000000) (hr : Rd w A (os.map (·.1))) (hos : ∀ p ∈ os, OutAt B w p ∧ 0 < p.2.length) (hq : Rd w Bq (bs.map sv)) :
    Calls Try.prog 55 #[.slice A os.length c, .slice Bq bs.length cq] w fun e w' => e = .returned (.bool (os.map (·.2) == bs)) ∧ ∃ n, w' = w.drewN n := by
  by_cases hl : os.length = bs.length
  · have hl' : ((os.length : Int) != (bs.length : Int)) = false := by simp [hl]
    have HL := Lib.hid hl
    have hle : os.length ≤ bs.length := by omega
    have hge : bs.length ≤ os.length := by omega
    clear hl
    go_enter Try.func55, Try.ntmps55
    go_wp2
    go_loopw [5] (fun i wr => ∃ k : Nat, k ≤ os.length ∧ i = .int .i64 k ∧ Hid ((os.map (·.2)).take k = bs.take k) ∧ ∃ n, wr = w.drewN n) (fun i _ => os.length - (intOf i).toNat)
    case atStart => exact ⟨0, by omega, rfl, rfl, 0, rfl⟩
    case round =>
      obtain ⟨k, hk, rfl, HE, n, hW⟩ := hrel
      have HW := Lib.hid hW
      by_cases hlt : k < os.length
      · have hbl : k < bs.length := by omega
        obtain ⟨b1, o1, rfl, hc1⟩ := hr k (by simpa using hlt)
        obtain ⟨b2, o2, rfl, hc2⟩ := hq k (by simpa using hbl)
        simp only [List.getElem_map] at hc1 hc2
        obtain ⟨⟨A', c', hp1, hown⟩, hpos⟩ := hos os[k] (List.getElem_mem _)
        have HX := Lib.hid (show (os.map (·.2))[k]'(by simpa using hlt) = os[k].2 by simp)
        obtain ⟨g', rfl⟩ : ∃ g', A' = some ⟨g', 0, none⟩ := by
          rw [hp1] at hown
          rcases hown.2 with ⟨he, h0⟩ | ⟨g', cap', cur', he, _⟩
          · omega
          · injection he with he; exact ⟨g', he⟩
        rw [hp1] at hc1 hown
        have hby := Rd.of_own hown
        generalize os[k].2 = x at *
        generalize hy : bs[k] = y at *
        have HY := Lib.hid hy
        clear hy
        replace hc1 : wr.cell? ⟨b1, o1 + k, none⟩ = some (.slice (some ⟨g', 0, none⟩) x.length c') := by rw [hW]; exact hc1
        replace hc2 : wr.cell? ⟨b2, o2 + k, none⟩ = some (.string ⟨y.toArray⟩) := by rw [hW]; exact hc2
        replace hby : Rd wr (some ⟨g', 0, none⟩) (bv x) := by rw [hW]; exact hby.drewN n
        clear hW
        have hcv : (convert 23 9 (.slice (some ⟨g', 0, none⟩) x.length c')).run Try.prog wr.drew = .ok (.string ⟨x.toArray⟩) wr.drew :=
          run_convert_bytes_back _ 23 9 5 ⟨g', 0, none⟩ c' x Try.underlying23 Try.underlying5 Try.underlying9 (fun j hj => by
            obtain ⟨b', off', he, hcc⟩ := hby.byte j hj
            injection he with he; injection he with e1 e2; subst e1; subst e2
            rw [show (⟨g', 0, none⟩ : Addr).add j = ⟨g', 0 + j, none⟩ from by unfold Addr.add; split <;> simp_all]
            exact hcc)
        have i0 : (0 : Int) ≤ k := by omega
        have i1 : (k : Int) < os.length := by omega
        have i2 : (k : Int) < bs.length := by omega
        clear hr hq hos hown hby hp1 hpos
        cases hxy : (x == y)
        · have hbx : (!x == y) = true := by rw [hxy]; rfl
          have HXY := Lib.hid hxy
          go_wp2
          go_region
          go_wp2
          go_ret
          have hne : (os.map (·.2) == bs) = false := by
            rw [beq_eq_false_iff_ne]; intro e
            have h1 := HX.out
            have h2 := HY.out
            subst e
            rw [h2] at h1
            have := HXY.out
            rw [h1] at this; simp at this
          exact ⟨by rw [hne]; rfl, n + 1, by rw [HW.out]; rfl⟩
        · have hbx : (!x == y) = false := by rw [hxy]; rfl
          have HXY := Lib.hid hxy
          go_wp2
          go_region
          go_wp2
          refine ⟨⟨k + 1, by omega, by go_num, ?_, n + 1, by rw [HW.out]; rfl⟩, by simp [intOf]; omega⟩
          show _ = _
          have h3 : x = y := by simpa using HXY.out
          rw [List.take_succ_eq_append_getElem (by simpa using hlt), List.take_succ_eq_append_getElem hbl, HE.out, HX.out, HY.out, h3]
      · obtain rfl : k = os.length := by omega
        clear hW
        go_wp2
        go_ret
        have he : (os.map (·.2) == bs) = true := by
          rw [beq_iff_eq]
          have := HE.out
          rwa [List.take_of_length_le (by simp), List.take_of_length_le (by omega)] at this
        exact ⟨by rw [he]; rfl, n, HW.out⟩
  · have hl' : ((os.length : Int) != (bs.length : Int)) = true := by simp; omega
    have hne : (os.map (·.2) == bs) = false := by
      rw [beq_eq_false_iff_ne]; intro e; exact hl (by rw [← e]; simp)
    have HN := Lib.hid hne
    clear hl hr hq hos hne
    go_enter Try.func55, Try.ntmps55
    go_wp2
    go_ret
    exact ⟨by rw [HN.out]; rfl, 0, rfl⟩
end Go.Proofs.Ytnbnghihmophpaa
