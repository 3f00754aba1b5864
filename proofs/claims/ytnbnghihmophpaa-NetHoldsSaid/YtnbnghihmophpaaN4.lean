/- The net: counters; its own block turned; the next fate. -/
import Derived.Test.YtnbnghihmophpaaN3
namespace Go.Proofs.Ytnbnghihmophpaa
open Go.RowKit
set_option maxRecDepth 20000
set_option maxHeartbeats 1000000
set_option linter.unusedVariables false
set_option linter.unusedSimpArgs false

theorem NetAt.upd {base : Nat} {w w' : World} {b : Nat} {s s' : NS} {F v0 v1 : Value} (h : NetAt base w b s F v0 v1) (hg : w.grownBy w' (some b)) (hb : Blk w' b 134 (netCells s' F v0 v1))
    (e1 : s'.fts = s.fts) (e2 : s'.u0 = s.u0) (e3 : s'.u1 = s.u1) : NetAt base w' b s' F v0 v1 ∧ Fr base w w' := by
  have hf : Fr base w w' := ⟨hg.os, hg.tape, hg.output, hg.size, fun k hk => hg.block k (by have := h.blk.lt; have := h.hb; omega) (by have := h.hb; simp; omega), fun k c t z hc h1 h2 => hg.block k (Array.getElem?_eq_some_iff.1 hc).1 (by
    intro e; injection e with e; subst e
    have := h.blk; unfold Blk at this; rw [this] at hc; injection hc with hc; injection hc with _ hc _; exact h1 hc.symm)⟩
  have hk : ∀ {v : Value} {n : Nat} {xs : List Value} {e : TypeId} {z : Nat}, w.ownsRow base e z v n xs → e ≠ 134 → ∀ g : Nat, v.ownBlock = some g → w'.heap[g]? = w.heap[g]? := by
    intro v n xs e z ho he g hgv
    obtain ⟨_, cur, hc⟩ := own_block ho hgv
    refine hg.block g (Array.getElem?_eq_some_iff.1 hc).1 (fun e' => ?_)
    injection e' with e'; subst e'
    have := h.blk; unfold Blk at this; rw [this] at hc; injection hc with hc; injection hc with _ hc _; exact he hc.symm
  refine ⟨⟨h.hb, hb, ?_, ?_, ?_, h.ne⟩, hf⟩
  · rw [e1]; exact own_keep h.ft (hk h.ft (by decide))
  · rw [e2]; exact h.r0.keep hf (hk h.r0.1 (by decide))
  · rw [e3]; exact h.r1.keep hf (hk h.r1.1 (by decide))
theorem NetAt.below {base : Nat} {w w' : World} {b : Nat} {s : NS} {F v0 v1 : Value} (h : NetAt base w b s F v0 v1) (hs : base ≤ w.heap.size) (hb : Below w.heap.size w w') : NetAt base w' b s F v0 v1 := by
  have hf := Fr.of_below hs hb
  have hk : ∀ {v : Value} {n : Nat} {xs : List Value} {e : TypeId} {z : Nat}, w.ownsRow base e z v n xs → ∀ g : Nat, v.ownBlock = some g → w'.heap[g]? = w.heap[g]? := by
    intro v n xs e z ho g hgv
    obtain ⟨_, cur, hc⟩ := own_block ho hgv
    exact hb.block g (Array.getElem?_eq_some_iff.1 hc).1
  exact ⟨h.hb, h.blk.below hb h.blk.lt, own_keep h.ft (hk h.ft), h.r0.keep hf (hk h.r0.1), h.r1.keep hf (hk h.r1.1), h.ne⟩

theorem load_any (b k : Nat) (x : Nat) (w : World) (hc : w.cell? ⟨b, k, none⟩ = some (.int .u64 x)) : Calls Try.prog 95 #[.pointer (some ⟨b, k, none⟩)] w fun e w' => e = .returned (.int .u64 x) ∧ w = w' := by
  have hl := run_call_load (P := Try.prog) (f := 113) rfl (by kernel_rfl) (by kernel_rfl) (by kernel_rfl) .u64 (by kernel_rfl) hc
  go_enter Try.func95, Try.ntmps95
  go_wp2_with (simp only [hl])
  go_ret
  exact ⟨rfl, rfl⟩
theorem store_any (b k : Nat) (x y : Nat) (w : World) (hc : w.cell? ⟨b, k, none⟩ = some (.int .u64 x)) (hf : w.frozen? ⟨b, k, none⟩ = false) : Calls Try.prog 111 #[.pointer (some ⟨b, k, none⟩), .int .u64 y] w fun e w' => (∃ v, e = .returned v) ∧ w' = w.setCell ⟨b, k, none⟩ (.int .u64 y) := by
  have hl := run_call_store (P := Try.prog) (f := 118) rfl (by kernel_rfl) (by kernel_rfl) (by kernel_rfl) (by kernel_rfl) (k := .u64) (y := (y : Int)) hc hf
  go_enter Try.func111, Try.ntmps111
  go_wp2_with (simp only [hl])
  go_end0
  exact ⟨⟨_, rfl⟩, rfl⟩
def sat (x : Nat) : Nat := if x < 18446744073709551615 then x + 1 else x
theorem add_any (b k : Nat) (x : Nat) (w : World) (cs : Array Value) (t : TypeId) (hb : Blk w b t cs) (hx : cs[k]? = some (.int .u64 x)) (hm : x ≤ 18446744073709551615) :
    Calls Try.prog 87 #[.pointer (some ⟨b, k, none⟩)] w fun e w' => (∃ v, e = .returned v) ∧ Blk w' b t (cs.setIfInBounds k (.int .u64 (sat x))) ∧ w.grownBy w' (some b) ∧ w'.heap.size = w.heap.size := by
  have hc : w.cell? ⟨b, k, none⟩ = some (.int .u64 x) := by rw [hb.cell]; exact hx
  have hf := hb.frozen k
  have HL := Lib.hid (load_any b k x w hc)
  by_cases hlt : x < 18446744073709551615
  · have HS := Lib.hid (store_any b k x (x + 1) w hc hf)
    have hsat : Hid (sat x = x + 1) := if_pos hlt
    have hlt' : decide ((x : Int) < 18446744073709551615) = true := by simp; omega
    have hw : IntKind.u64.wrap ((x : Int) + 1) = ((x + 1 : Nat) : Int) := by rw [IntKind.wrap_u64]; omega
    go_enter Try.func87, Try.ntmps87
    go_wp2_with (first | (go_at_call 95; refine (HL.out).mono ?_; rintro e w1 ⟨rfl, rfl⟩) | (go_at_call 111; refine (HS.out).mono ?_; rintro e w1 ⟨⟨v, rfl⟩, rfl⟩))
    go_end0
    rw [hsat.out]
    exact ⟨⟨_, rfl⟩, hb.set_ k _, ⟨rfl, rfl, rfl, by simp [World.setCell], fun i _ hi => Below.heap_setCell w ⟨b, k, none⟩ _ i (fun e => hi (by rw [e]))⟩, by simp [World.setCell]⟩
  · have hsat : Hid (sat x = x) := if_neg hlt
    have hlt' : decide ((x : Int) < 18446744073709551615) = false := by simp; omega
    go_enter Try.func87, Try.ntmps87
    go_wp2_with (first | (go_at_call 95; refine (HL.out).mono ?_; rintro e w1 ⟨rfl, rfl⟩))
    go_end0
    rw [hsat.out]
    refine ⟨⟨_, rfl⟩, ?_, World.grownBy.refl w _, rfl⟩
    have : cs.setIfInBounds k (.int .u64 x) = cs := by
      obtain ⟨hk, hv⟩ := Array.getElem?_eq_some_iff.1 hx
      rw [Array.setIfInBounds, dif_pos hk, ← hv]; simp
    rw [this]; exact hb
end Go.Proofs.Ytnbnghihmophpaa
