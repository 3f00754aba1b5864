/- The net: the four sends of the chapter's examples. -/
import Derived.Test.YtnbnghihmophpaaNH
namespace Go.Proofs.Ytnbnghihmophpaa
open Go.RowKit
set_option maxRecDepth 20000
set_option maxHeartbeats 4000000
set_option linter.unusedVariables false
set_option linter.unusedSimpArgs false

def fsW : List Fate := [⟨0, 0, 0, 0⟩, ⟨1, 0, 0, 0⟩, ⟨2, 1, 0, 0⟩, ⟨4, 0, 0, 0⟩]
def lW : Nat → List (Nat × List UInt8)
  | 0 => []
  | 1 => [(1, pa)]
  | 2 => [(1, pa)]
  | 3 => [(1, pa), (1, pc), (2, pc)]
  | _ => [(1, pa), (1, pc), (1, pd), (2, pc)]
def chW : Nat → UInt8
  | 0 => 97
  | 1 => 98
  | 2 => 99
  | _ => 100
structure SW (k : Nat) (s : NS) : Prop where
  f : s.fts = fsW
  nx : s.next = k % 4
  nw : s.now = 0
  u0 : s.u0 = []
  u1 : er s.u1 = lW k
  se : s.sent = k
  lo : s.lost = if 2 ≤ k then 1 else 0
  ta : s.taken = 0
  ba : s.bad = 0
  so : Sorted s.u1
theorem fsW_ok : ∀ f ∈ fsW, f.ok := by
  intro f hf
  simp only [fsW, List.mem_cons, List.not_mem_nil, or_false] at hf
  rcases hf with rfl | rfl | rfl | rfl <;> simp [Fate.ok]
theorem SW.len {k : Nat} {s : NS} (h : SW k s) : s.u1.length ≤ 4 := by
  have h1 := congrArg List.length h.u1
  simp only [er, List.length_map] at h1
  rw [h1]; unfold lW; split <;> simp
theorem SW.step {k : Nat} {s : NS} (h : SW k s) : s.step.fts = fsW ∧ s.step.next = (k % 4 + 1) % 4 := by
  refine ⟨(step_same s).1.trans h.f, ?_⟩
  unfold NS.step
  rw [h.f]
  simp [fsW, h.nx]

theorem send_works (k : Nat) (hk : k < 4) (base b : Nat) (s : NS) (F v0 v1 : Value) (w : World) (h : NetAt base w b s F v0 v1) (hs : SW k s) (A : Option Addr) (cap : Nat) (hc : 1 ≤ cap) (hr : ∀ W, Fr base w W → Rd W A (bv [chW k])) :
    Calls Try.prog 57 #[.pointer (some ⟨b, 0, none⟩), .int .i64 1, .slice A 1 cap] w fun e w' => e = .returned (.int .i64 0) ∧ ∃ s' v1', SW (k + 1) s' ∧ NetAt base w' b s' F v0 v1' ∧ Fr base w w' := by
  have hlen := hs.len
  have hno : s.nextOk := .inr (by rw [hs.f, hs.nx]; simp [fsW]; omega)
  have hl : s.fts.length ≤ 1000000 := by rw [hs.f]; simp [fsW]
  have hok : ∀ f ∈ s.fts, f.ok := by rw [hs.f]; exact fsW_ok
  obtain ⟨st1, st2⟩ := hs.step
  obtain ⟨-, e2, e3, e4, e5, e6, e7, e8⟩ := step_same s
  rcases (by omega : k = 0 ∨ k = 1 ∨ k = 2 ∨ k = 3) with rfl | rfl | rfl | rfl
  · have hf : s.fate = ⟨0, 0, 0, 0⟩ := by unfold NS.fate; rw [hs.f, hs.nx]; rfl
    refine (send1_0 base b s F v0 v1 w h hno hl hok hs.so (by omega) (by rw [hs.nw]; omega) (by rw [hs.se]; omega) (by rw [hs.lo]; simp) A [97] cap (by simp) hc hr 0 0 0 hf (by omega)).mono ?_
    rintro e w' ⟨he, at_, v1', hn, hfr⟩
    refine ⟨he, _, v1', ?_, hn, hfr⟩
    refine ⟨st1, st2, e4.trans hs.nw, e2.trans hs.u0, ?_, ?_, e6.trans hs.lo, e7.trans hs.ta, e8.trans hs.ba, ins_sorted _ hs.so⟩
    · show er (ins _ _) = _
      rw [er_ins, hs.u1, hs.nw]; rfl
    · show sat s.sent = 1
      rw [hs.se]; rfl
  · have hf : s.fate = ⟨1, 0, 0, 0⟩ := by unfold NS.fate; rw [hs.f, hs.nx]; rfl
    refine (send1_1 base b s F v0 v1 w h hno hl hok hs.so (by omega) (by rw [hs.nw]; omega) (by rw [hs.se]; omega) (by rw [hs.lo]; simp) A [98] cap (by simp) hc hr 0 0 0 hf (by omega)).mono ?_
    rintro e w' ⟨he, at_, v1', hn, hfr⟩
    refine ⟨he, _, v1', ?_, hn, hfr⟩
    refine ⟨st1, st2, e4.trans hs.nw, e2.trans hs.u0, ?_, ?_, ?_, e7.trans hs.ta, e8.trans hs.ba, ?_⟩
    · show er s.step.u1 = _
      rw [e3, hs.u1]; rfl
    · show sat s.sent = 2
      rw [hs.se]; rfl
    · show sat s.lost = _
      rw [hs.lo]; rfl
    · show Sorted s.step.u1
      rw [e3]; exact hs.so
  · have hf : s.fate = ⟨2, 1, 0, 0⟩ := by unfold NS.fate; rw [hs.f, hs.nx]; rfl
    refine (send1_2 base b s F v0 v1 w h hno hl hok hs.so (by omega) (by rw [hs.nw]; omega) (by rw [hs.se]; omega) (by rw [hs.lo]; simp) A [99] cap (by simp) hc hr 1 0 0 hf (by omega)).mono ?_
    rintro e w' ⟨he, at_, v1', hn, hfr⟩
    refine ⟨he, _, v1', ?_, hn, hfr⟩
    refine ⟨st1, st2, e4.trans hs.nw, e2.trans hs.u0, ?_, ?_, e6.trans hs.lo, e7.trans hs.ta, e8.trans hs.ba, ins_sorted _ (ins_sorted _ hs.so)⟩
    · show er (ins (ins _ _) _) = _
      rw [er_ins, er_ins, hs.u1, hs.nw]; rfl
    · show sat s.sent = 3
      rw [hs.se]; rfl
  · have hf : s.fate = ⟨4, 0, 0, 0⟩ := by unfold NS.fate; rw [hs.f, hs.nx]; rfl
    refine (send1_4 base b s F v0 v1 w h hno hl hok hs.so (by omega) (by rw [hs.nw]; omega) (by rw [hs.se]; omega) (by rw [hs.lo]; simp) A [100] cap (by simp) hc hr 0 0 0 hf (by omega) rfl rfl 100 101 [] rfl (by kernel_rfl)).mono ?_
    rintro e w' ⟨he, at_, v1', hn, hfr⟩
    refine ⟨he, _, v1', ?_, hn, hfr⟩
    refine ⟨st1, st2, e4.trans hs.nw, e2.trans hs.u0, ?_, ?_, e6.trans hs.lo, e7.trans hs.ta, e8.trans hs.ba, ins_sorted _ hs.so⟩
    · show er (ins _ _) = _
      rw [er_ins, hs.u1, hs.nw]; rfl
    · show sat s.sent = 4
      rw [hs.se]; rfl
end Go.Proofs.Ytnbnghihmophpaa
