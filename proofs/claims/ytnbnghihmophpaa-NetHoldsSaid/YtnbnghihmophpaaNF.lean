/- The net: a new one. -/
import Derived.Test.YtnbnghihmophpaaNE
import Derived.Test.YtnbnghihmophpaaNA
namespace Go.Proofs.Ytnbnghihmophpaa
open Go.RowKit
set_option maxRecDepth 20000
set_option maxHeartbeats 4000000
set_option linter.unusedVariables false
set_option linter.unusedSimpArgs false

theorem info79b : (Try.prog.info? 79).map (fun i => (i.zero, i.size, i.bytes)) = some (some (.agg #[.int .i64 0, .int .u16 0, .int .i64 0, .int .u8 0]), 4, 32) := by kernel_rfl
theorem fcells_one (fs : List Fate) : ∀ v ∈ fcells fs, v.oneCell' = true := by
  intro v hv
  simp only [fcells, List.mem_flatMap, Fate.cells, List.mem_cons, List.not_mem_nil, or_false] at hv
  obtain ⟨d, _, rfl | rfl | rfl | rfl⟩ := hv <;> rfl
theorem cloneF_any (A : Option Addr) (n c : Nat) (xs : List Value) (w : World) (hn : n ≤ 1000000) (hl : xs.length = n * 4) (hr : Rd w A xs) (h1 : ∀ u ∈ xs, u.oneCell' = true) (hA : A = none → n = 0 ∧ c = 0) :
    Calls Try.prog 83 #[.slice A n c] w fun e w' => ∃ v', e = .returned v' ∧ w'.ownsRow w.heap.size 79 4 v' n xs ∧ Below w.heap.size w w' := by
  rcases A with _ | ⟨g, off, sp⟩
  · obtain ⟨rfl, rfl⟩ := hA rfl
    obtain rfl : xs = [] := List.eq_nil_of_length_eq_zero (by omega)
    have he := fun w => Lib.run_eql_slice_nil (P := Try.prog) w 67 79 none 0 0 0 0 Try.underlying67
    go_enter Try.func83, Try.ntmps83
    go_wp2
    go_ret
    exact ⟨_, rfl, World.ownsRow_nil _ _ _ _, Below.refl _ _⟩
  · have he := fun w => Lib.run_eql_slice_nil (P := Try.prog) w 67 79 (some ⟨g, off, sp⟩) n c 0 0 Try.underlying67
    have hbs : ∀ w, (Instr.buildSlice 67 0 #[]).run Try.prog w = .ok (.slice (some ⟨w.heap.size, 0, none⟩) 0 0) (w.alloc (.cells #[] 79)) := fun _ => by kernel_rfl
    have h0 : (w.alloc (.cells #[] 79)).ownsRow w.heap.size 79 4 (.slice (some ⟨w.heap.size, 0, none⟩) 0 0) 0 [] :=
      World.ownsRow_lit w #[] 0 (Nat.le_refl _) (by simp [maxLen]) rfl
    have hb0 : Below w.heap.size w (w.alloc (.cells #[] 79)) := (Below.refl _ _).alloc (Nat.le_refl _) _
    have hr0 := hr.alloc (.cells #[] 79)
    go_enter Try.func83, Try.ntmps83
    go_wp2_with (at_builtin; refine wpList_append_rd rfl (.tmp 5) (.tmp 6) 67 rfl w.heap.size 79 _ 4 32 Try.underlying67 info79b rfl (by omega) (.slice (some ⟨w.heap.size, 0, none⟩) 0 0) 0 [] rfl h0 (some ⟨g, off, sp⟩) n c xs rfl hl hr0 h1 (by simp only [maxLen]; omega) (by omega) (by simp) ?_; intro v1 w1 hown hg _)
    simp only [Nat.zero_add, List.nil_append] at hown
    go_ret
    exact ⟨v1, rfl, hown, hb0.grown hg (by simp) (by simp [Value.ownBlock])⟩

def newNet (fs : List Fate) : NS := ⟨fs, 0, 0, [], [], 0, 0, 0, 0⟩
theorem new_any (A : Option Addr) (c : Nat) (fs : List Fate) (w : World) (hn : fs.length ≤ 1000000) (hr : Rd w A (fcells fs)) (hA : A = none → fs.length = 0 ∧ c = 0) :
    Calls Try.prog 49 #[.slice A fs.length c] w fun e w' => ∃ b F, e = .returned (.pointer (some ⟨b, 0, none⟩)) ∧ NetAt w.heap.size w' b (newNet fs) F (.slice none 0 0) (.slice none 0 0) ∧ Below w.heap.size w w' := by
  have HC := Lib.hid (cloneF_any A fs.length c (fcells fs) w hn (fcells_length fs) hr (fcells_one fs) hA)
  clear hr hA
  go_enter Try.func49, Try.ntmps49
  go_wp2_with (go_at_call 83; refine (HC.out).mono ?_; rintro e w1 ⟨v1, rfl, hown, hb1⟩; obtain ⟨A1, c1, rfl, _, _⟩ := own_slice hown; have HO := Lib.hid hown; have HB1 := Lib.hid hb1; clear hown hb1)
  go_ret
  have hB : Below w1.heap.size w1 (w1.alloc (Obj.cells (netCells (newNet fs) (.slice A1 fs.length c1) (.slice none 0 0) (.slice none 0 0)) 134)) := (Below.refl _ w1).alloc (Nat.le_refl _) _
  refine ⟨w1.heap.size, .slice A1 fs.length c1, rfl, ⟨HB1.out.size, Blk.new w1 134 _, own_below HO.out hB, ⟨World.ownsRow_nil _ _ _ _, fun d hd => by simp [newNet] at hd⟩, ⟨World.ownsRow_nil _ _ _ _, fun d hd => by simp [newNet] at hd⟩, fun g hg => by cases hg⟩, below_then HB1.out HB1.out.size hB⟩

end Go.Proofs.Ytnbnghihmophpaa
