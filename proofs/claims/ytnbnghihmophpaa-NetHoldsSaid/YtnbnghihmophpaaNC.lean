/- The net: rows copied. -/
import Derived.Test.YtnbnghihmophpaaNB
namespace Go.Proofs.Ytnbnghihmophpaa
open Go.RowKit
set_option maxRecDepth 20000
set_option maxHeartbeats 4000000
set_option linter.unusedVariables false
set_option linter.unusedSimpArgs false

theorem cloneD_any (A : Option Addr) (n c : Nat) (xs : List Value) (w : World) (hn : n ≤ 1000000) (hl : xs.length = n * 2) (hr : Rd w A xs) (h1 : ∀ u ∈ xs, u.oneCell' = true) (hA : A = none → n = 0 ∧ c = 0) :
    Calls Try.prog 86 #[.slice A n c] w fun e w' => ∃ v', e = .returned v' ∧ w'.ownsRow w.heap.size 141 2 v' n xs ∧ Below w.heap.size w w' := by
  rcases A with _ | ⟨g, off, sp⟩
  · obtain ⟨rfl, rfl⟩ := hA rfl
    obtain rfl : xs = [] := List.eq_nil_of_length_eq_zero (by omega)
    have he := fun w => Lib.run_eql_slice_nil (P := Try.prog) w 124 141 none 0 0 0 0 Try.underlying124
    go_enter Try.func86, Try.ntmps86
    go_wp2
    go_ret
    exact ⟨_, rfl, World.ownsRow_nil _ _ _ _, Below.refl _ _⟩
  · have he := fun w => Lib.run_eql_slice_nil (P := Try.prog) w 124 141 (some ⟨g, off, sp⟩) n c 0 0 Try.underlying124
    have hbs : ∀ w, (Instr.buildSlice 124 0 #[]).run Try.prog w = .ok (.slice (some ⟨w.heap.size, 0, none⟩) 0 0) (w.alloc (.cells #[] 141)) := fun _ => by kernel_rfl
    have h0 : (w.alloc (.cells #[] 141)).ownsRow w.heap.size 141 2 (.slice (some ⟨w.heap.size, 0, none⟩) 0 0) 0 [] :=
      World.ownsRow_lit w #[] 0 (Nat.le_refl _) (by simp [maxLen]) rfl
    have hb0 : Below w.heap.size w (w.alloc (.cells #[] 141)) := (Below.refl _ _).alloc (Nat.le_refl _) _
    have hr0 := hr.alloc (.cells #[] 141)
    go_enter Try.func86, Try.ntmps86
    go_wp2_with (at_builtin; refine wpList_append_rd rfl (.tmp 5) (.tmp 6) 124 rfl w.heap.size 141 _ 2 32 Try.underlying124 info141 rfl (by omega) (.slice (some ⟨w.heap.size, 0, none⟩) 0 0) 0 [] rfl h0 (some ⟨g, off, sp⟩) n c xs rfl hl hr0 h1 (by simp only [maxLen]; omega) (by omega) (by simp) ?_; intro v1 w1 hown hg _)
    simp only [Nat.zero_add, List.nil_append] at hown
    go_ret
    exact ⟨v1, rfl, hown, hb0.grown hg (by simp) (by simp [Value.ownBlock])⟩
end Go.Proofs.Ytnbnghihmophpaa
