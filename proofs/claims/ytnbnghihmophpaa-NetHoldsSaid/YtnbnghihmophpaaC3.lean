/- Walks: a row in new memory; are two rows the same; a row written over; a number brought into bounds. -/
import Derived.Test.YtnbnghihmophpaaC2
import Derived.Deep.QuietTactic
import Derived.BigQuiet
namespace Go.Proofs.Ytnbnghihmophpaa
open Go.RowKit
set_option maxRecDepth 20000
set_option maxHeartbeats 1000000
set_option linter.unusedVariables false
set_option linter.unusedSimpArgs false

theorem info5 : (Try.prog.info? 5).map (fun i => (i.zero, i.size, i.bytes)) = some (some (.int .u8 0), 1, 1) := by kernel_rfl

theorem own_any (A : Option Addr) (xs : List UInt8) (cap : Nat) (w : World) (hm : xs.length ≤ 140737488355328) (hr : Rd w A (bv xs)) :
    Calls Try.prog 18 #[.slice A xs.length cap] w fun e w' => ∃ A' c', e = .returned (.slice A' xs.length c') ∧ w'.ownsRow w.heap.size 5 1 (.slice A' xs.length c') xs.length (bv xs) ∧ Below w.heap.size w w' := by
  go_enter Try.func18, Try.ntmps18
  go_wp2_with (at_builtin; refine wpList_append_rd rfl (.tmp 4) (.tmp 5) 23 rfl w.heap.size 5 (.int .u8 0) 1 1 Try.underlying23 info5 rfl (by omega) (.slice none 0 0) 0 [] rfl (World.ownsRow_nil _ _ _ _) A xs.length cap (bv xs) rfl (by simp) hr (bv_one xs) (by simp only [maxLen]; omega) (by omega) (Nat.le_refl _) ?_; intro v1 w1 hown hg _)
  simp only [Nat.zero_add, List.nil_append] at hown
  obtain ⟨A', c', hv, _, _⟩ := own_slice hown
  go_ret
  refine ⟨A', c', by rw [← hv]; rfl, hv ▸ hown, (Below.refl _ _).grown hg (Nat.le_refl _) (by simp [Value.ownBlock])⟩

theorem bytes_ne {a b : UInt8} : ((a.toNat : Int) != (b.toNat : Int)) = (a != b) := by
  rw [Bool.eq_iff_iff]; simp only [bne_iff_ne, ne_eq]
  constructor
  · intro h e; subst e; exact h rfl
  · intro h e; exact h (UInt8.toNat_inj.1 (by omega))
theorem take_eq_step {xs ys : List UInt8} {k : Nat} (h : xs.take k = ys.take k) (hx : k < xs.length) (hy : k < ys.length) (he : xs[k] = ys[k]) : xs.take (k + 1) = ys.take (k + 1) := by
  rw [List.take_succ_eq_append_getElem hx, List.take_succ_eq_append_getElem hy, h, he]

theorem same_any (A A' : Option Addr) (xs ys : List UInt8) (c c' : Nat) (w : World) (hm : xs.length ≤ 9223372036854775807) (hm' : ys.length ≤ 9223372036854775807) (hx : Rd w A (bv xs)) (hy : Rd w A' (bv ys)) :
    Calls Try.prog 23 #[.slice A xs.length c, .slice A' ys.length c'] w fun e w' => e = .returned (.bool (xs == ys)) ∧ ∃ n, w' = w.drewN n := by
  by_cases hl : xs.length = ys.length
  · have hl' : ((xs.length : Int) != (ys.length : Int)) = false := by simp [hl]
    have hle : xs.length ≤ ys.length := by omega
    have hge : ys.length ≤ xs.length := by omega
    have HL := Lib.hid hl
    clear hl
    go_enter Try.func23, Try.ntmps23
    go_wp2
    go_loopw [5] (fun i wr => ∃ k : Nat, k ≤ xs.length ∧ i = .int .i64 k ∧ xs.take k = ys.take k ∧ ∃ n, wr = w.drewN n) (fun i _ => xs.length - (intOf i).toNat)
    case atStart => exact ⟨0, by omega, rfl, rfl, 0, rfl⟩
    case round =>
      obtain ⟨k, hk, rfl, heq, n, rfl⟩ := hrel
      have HE := Lib.hid heq
      clear heq
      by_cases hlt : k < xs.length
      · obtain ⟨b, off, rfl, hc⟩ := hx.byte k hlt
        obtain ⟨b', off', rfl, hc'⟩ := hy.byte k (by omega)
        have h0 : (0 : Int) ≤ k := by omega
        have h1 : (k : Int) < xs.length := by omega
        have h2 : (k : Int) < ys.length := by omega
        have hn := bytes_ne (a := xs[k]) (b := ys[k])
        have hys : k < ys.length := by omega
        by_cases hb : xs[k] = ys[k]
        · have hb' : (((xs[k]).toNat : Int) != ((ys[k]).toNat : Int)) = false := by rw [hn, hb]; simp
          have HS := Lib.hid (take_eq_step HE.out hlt hys hb)
          clear hn hx hy hb
          go_wp2
          go_quiet (fail)
          go_wp2
          go_roundw
          case rel => exact ⟨k + 1, by omega, by go_num, HS.out, _, rfl⟩
          case measure => simp [intOf]; omega
        · have hb' : (((xs[k]).toNat : Int) != ((ys[k]).toNat : Int)) = true := by rw [hn]; simpa using hb
          have HN : Hid ((xs == ys) = false) := by
            show _ = _
            rw [beq_eq_false_iff_ne]; rintro rfl; exact hb rfl
          clear hn hx hy hb
          go_wp2
          go_quiet (fail)
          go_wp2
          go_ret
          exact ⟨by rw [HN.out]; rfl, _, World.drewN_drewN ..⟩
      · have HN : Hid ((xs == ys) = true) := by
          show _ = _
          rw [beq_iff_eq]
          have := HE.out
          rwa [List.take_of_length_le (by omega), List.take_of_length_le (by omega)] at this
        clear hx hy
        go_wp2
        go_ret
        exact ⟨by rw [HN.out]; rfl, _, rfl⟩
  · have hl' : ((xs.length : Int) != (ys.length : Int)) = true := by simp; omega
    have HN : Hid ((xs == ys) = false) := by
      show _ = _
      rw [beq_eq_false_iff_ne]; rintro rfl; exact hl rfl
    clear hl hx hy
    go_enter Try.func23, Try.ntmps23
    go_wp2
    go_ret
    exact ⟨by rw [HN.out]; rfl, 0, rfl⟩
theorem equal_any (A A' : Option Addr) (xs ys : List UInt8) (c c' : Nat) (w : World) (hm : xs.length ≤ 9223372036854775807) (hm' : ys.length ≤ 9223372036854775807) (hx : Rd w A (bv xs)) (hy : Rd w A' (bv ys)) :
    Calls Try.prog 65 #[.slice A xs.length c, .slice A' ys.length c'] w fun e w' => e = .returned (.bool (xs == ys)) ∧ ∃ n, w' = w.drewN n := by
  by_cases hl : xs.length = ys.length
  · have hl' : ((xs.length : Int) != (ys.length : Int)) = false := by simp [hl]
    have hle : xs.length ≤ ys.length := by omega
    have hge : ys.length ≤ xs.length := by omega
    have HL := Lib.hid hl
    clear hl
    go_enter Try.func65, Try.ntmps65
    go_wp2
    go_loopw [13] (fun i wr => ∃ k : Nat, k ≤ xs.length ∧ i = .int .i64 k ∧ xs.take k = ys.take k ∧ ∃ n, wr = w.drewN n) (fun i _ => xs.length - (intOf i).toNat)
    case atStart => exact ⟨0, by omega, rfl, rfl, 0, rfl⟩
    case round =>
      obtain ⟨k, hk, rfl, heq, n, rfl⟩ := hrel
      have HE := Lib.hid heq
      clear heq
      by_cases hlt : k < xs.length
      · obtain ⟨b, off, rfl, hc⟩ := hx.byte k hlt
        obtain ⟨b', off', rfl, hc'⟩ := hy.byte k (by omega)
        have h0 : (0 : Int) ≤ k := by omega
        have h1 : (k : Int) < xs.length := by omega
        have h2 : (k : Int) < ys.length := by omega
        have hn := bytes_ne (a := xs[k]) (b := ys[k])
        have hys : k < ys.length := by omega
        by_cases hb : xs[k] = ys[k]
        · have hb' : (((xs[k]).toNat : Int) != ((ys[k]).toNat : Int)) = false := by rw [hn, hb]; simp
          have HS := Lib.hid (take_eq_step HE.out hlt hys hb)
          clear hn hx hy hb
          go_wp2
          go_quiet (fail)
          go_wp2
          go_roundw
          case rel => exact ⟨k + 1, by omega, by go_num, HS.out, _, rfl⟩
          case measure => simp [intOf]; omega
        · have hb' : (((xs[k]).toNat : Int) != ((ys[k]).toNat : Int)) = true := by rw [hn]; simpa using hb
          have HN : Hid ((xs == ys) = false) := by
            show _ = _
            rw [beq_eq_false_iff_ne]; rintro rfl; exact hb rfl
          clear hn hx hy hb
          go_wp2
          go_quiet (fail)
          go_wp2
          go_ret
          exact ⟨by rw [HN.out]; rfl, _, World.drewN_drewN ..⟩
      · have HN : Hid ((xs == ys) = true) := by
          show _ = _
          rw [beq_iff_eq]
          have := HE.out
          rwa [List.take_of_length_le (by omega), List.take_of_length_le (by omega)] at this
        clear hx hy
        go_wp2
        go_ret
        exact ⟨by rw [HN.out]; rfl, _, rfl⟩
  · have hl' : ((xs.length : Int) != (ys.length : Int)) = true := by simp; omega
    have HN : Hid ((xs == ys) = false) := by
      show _ = _
      rw [beq_eq_false_iff_ne]; rintro rfl; exact hl rfl
    clear hl hx hy
    go_enter Try.func65, Try.ntmps65
    go_wp2
    go_ret
    exact ⟨by rw [HN.out]; rfl, 0, rfl⟩

theorem clone_any (A : Option Addr) (xs : List UInt8) (cap : Nat) (w : World) (hm : xs.length ≤ 140737488355328) (hr : Rd w A (bv xs)) :
    Calls Try.prog 66 #[.slice A xs.length cap] w fun e w' => ∃ A' c', e = .returned (.slice A' xs.length c') ∧ w'.ownsRow w.heap.size 5 1 (.slice A' xs.length c') xs.length (bv xs) ∧ Below w.heap.size w w' := by
  rcases A with _ | ad
  · have hx : xs = [] := by
      rcases xs with _ | ⟨x, xs⟩
      · rfl
      · obtain ⟨b, off, h, _⟩ := hr 0 (by simp [bv])
        cases h
    subst hx
    have he := fun w => Lib.run_eql_slice_nil (P := Try.prog) w 23 5 none 0 cap 0 0 Try.underlying23
    go_enter Try.func66, Try.ntmps66
    go_wp2
    go_ret
    exact ⟨none, 0, rfl, World.ownsRow_nil _ _ _ _, Below.refl _ _⟩
  · have he := fun w => Lib.run_eql_slice_nil (P := Try.prog) w 23 5 (some ad) xs.length cap 0 0 Try.underlying23
    have hbs : ∀ w, (Instr.buildSlice 23 0 #[]).run Try.prog w = .ok (.slice (some ⟨w.heap.size, 0, none⟩) 0 0) (w.alloc (.cells #[] 5)) := fun _ => by kernel_rfl
    have h0 : (w.alloc (.cells #[] 5)).ownsRow w.heap.size 5 1 (.slice (some ⟨w.heap.size, 0, none⟩) 0 0) 0 [] :=
      World.ownsRow_lit w #[] 0 (Nat.le_refl _) (by simp [maxLen]) rfl
    have hb0 : Below w.heap.size w (w.alloc (.cells #[] 5)) := (Below.refl _ _).alloc (Nat.le_refl _) _
    have hr0 := hr.alloc (.cells #[] 5)
    go_enter Try.func66, Try.ntmps66
    go_wp2_with (at_builtin; refine wpList_append_rd rfl (.tmp 5) (.tmp 6) 23 rfl w.heap.size 5 (.int .u8 0) 1 1 Try.underlying23 info5 rfl (by omega) (.slice (some ⟨w.heap.size, 0, none⟩) 0 0) 0 [] rfl h0 (some ad) xs.length cap (bv xs) rfl (by simp) hr0 (bv_one xs) (by simp only [maxLen]; omega) (by omega) (by simp) ?_; intro v1 w1 hown hg _)
    simp only [Nat.zero_add, List.nil_append] at hown
    obtain ⟨A', c', hv, _, _⟩ := own_slice hown
    go_ret
    refine ⟨A', c', by rw [← hv]; rfl, hv ▸ hown, hb0.grown hg (by simp) (by simp [Value.ownBlock])⟩

theorem run_grow_zeros (w : World) (n : Nat) (h0 : 0 < n) (hn : n ≤ 140737488355328) :
    ∃ c, (Builtin.append_ #[23, 3] 23 #[.slice none 0 0, .int .i64 n]).run Try.prog w = .ok (.slice (some ⟨w.heap.size, 0, none⟩) n c) (w.drew.alloc (.cells (Builtin.zeroCells #[.int .u8 0] n ++ Builtin.zeroCells #[.int .u8 0] (c - n)) 5)) ∧ n ≤ c ∧ c ≤ maxLen := by
  obtain ⟨i, hi, hzz⟩ := Option.map_eq_some_iff.1 info5
  simp only [Prod.mk.injEq] at hzz
  obtain ⟨hz, hsize, hby⟩ := hzz
  refine ⟨grownCap w n 0 5, ?_, grownCap_ge w n 0 5, grownCap_le_maxLen w n 0 5 (by simp only [maxLen]; omega)⟩
  have hw : IntKind.i64.wrap (n : Int) = n := by rw [IntKind.wrap_i64]; omega
  have hnx : Builtin.nextslicecap n 0 = n := by unfold Builtin.nextslicecap; rw [if_pos (by omega)]
  have h1 : ¬ ((n : Int) < 0) := by omega
  have h2 : ¬ (281474976710656 < (n : Int)) := by omega
  have h3 : n ≠ 0 := by omega
  have h4 : ¬ (9223372036854775807 < (n : Int)) := by omega
  have h5 : ¬ (281474976710656 < n) := by omega
  simp [Builtin.append_, run_underlying Try.underlying23, run_underlying Try.underlying3, sizeOf, typeInfo, zeroValue, hi, hz, hsize, hby, asInt, asIntOf, hw, hnx, h1, h2, h3, h4, h5, Question.forced, run_firstCells_none, newRow, grownCap]
  rfl

theorem size_zeros (n : Nat) : (Builtin.zeroCells #[.int .u8 0] n).size = n := by simp [Builtin.zeroCells]
theorem grow_any (n : Nat) (w : World) (hn : n ≤ 140737488355328) :
    Calls Try.prog 97 #[.slice none 0 0, .int .i64 n] w fun e w' => ∃ A' c', e = .returned (.slice A' 0 c') ∧ w'.ownsRow w.heap.size 5 1 (.slice A' 0 c') 0 [] ∧ Below w.heap.size w w' := by
  rcases Nat.eq_zero_or_pos n with h0 | h0
  · subst h0
    go_enter Try.func97, Try.ntmps97
    go_wp2
    go_ret
    exact ⟨none, 0, rfl, World.ownsRow_nil _ _ _ _, Below.refl _ _⟩
  · obtain ⟨c, hrun, hc, hm⟩ := run_grow_zeros w n h0 hn
    have hs : (Builtin.zeroCells #[.int .u8 0] n ++ Builtin.zeroCells #[.int .u8 0] (c - n)).size = c := by rw [Array.size_append, size_zeros, size_zeros]; omega
    generalize (Builtin.zeroCells #[.int .u8 0] n ++ Builtin.zeroCells #[.int .u8 0] (c - n)) = cs at *
    have H := World.ownsRow_made (base := w.heap.size) (e := 5) (size := 1) w.drew cs c (Nat.le_refl _) hm (by omega)
    have HB : Below w.heap.size w (w.drew.alloc (.cells cs 5)) := ((Below.refl _ _).drew).alloc (Nat.le_refl _) _
    have H1 := Lib.hid H
    have HB1 := Lib.hid HB
    have hp : (0 : Int) < n := by omega
    have HR := Lib.hid hrun
    clear H HB hs hrun
    go_enter Try.func97, Try.ntmps97
    go_wp2_with (at_builtin; refine wpList_append_run rfl (.tmp 20) (.tmp 21) _ rfl (.slice none 0 0) (.int .i64 n) _ _ rfl rfl HR.out ?_)
    go_ret
    exact ⟨_, c, rfl, H1.out, HB1.out⟩
end Go.Proofs.Ytnbnghihmophpaa
