/- The net: a datagram twice, or spoilt; which sides there are. -/
import Derived.Test.YtnbnghihmophpaaN7
import Derived.Test.YtnbnghihmophpaaC7
namespace Go.Proofs.Ytnbnghihmophpaa
open Go.RowKit
set_option maxRecDepth 20000
set_option maxHeartbeats 2000000
set_option linter.unusedVariables false
set_option linter.unusedSimpArgs false

theorem right_yes (k : Nat) (hk : k < 2) (w : World) : Calls Try.prog 85 #[.int .i64 k] w fun e w' => e = .returned (.bool true) ∧ w = w' := by
  have h1 : decide ((0 : Int) ≤ k) = true := by simp
  have h2 : decide ((k : Int) < 2) = true := by simp; omega
  go_enter Try.func85, Try.ntmps85
  go_wp2
  go_ret
  exact ⟨rfl, rfl⟩
theorem right_no (k : Int) (hk : k ≠ 0 ∧ k ≠ 1) (w : World) : Calls Try.prog 85 #[.int .i64 k] w fun e w' => e = .returned (.bool false) ∧ w = w' := by
  rcases (by omega : k < 0 ∨ (0 ≤ k ∧ 2 ≤ k)) with h | ⟨h, h'⟩
  · have h1 : decide ((0 : Int) ≤ k) = false := by simp; omega
    go_enter Try.func85, Try.ntmps85
    go_wp2
    go_ret
    exact ⟨rfl, rfl⟩
  · have h1 : decide ((0 : Int) ≤ k) = true := by simp; omega
    have h2 : decide ((k : Int) < 2) = false := by simp; omega
    go_enter Try.func85, Try.ntmps85
    go_wp2
    go_ret
    exact ⟨rfl, rfl⟩
section
variable (base b : Nat) (s : NS) (F v0 v1 : Value) (w0 w : World)
theorem twice1_any (h : NetAt base w0 b s F v0 v1) (hB : Below w0.heap.size w0 w) (hso : Sorted s.u1) (hn : s.u1.length ≤ 999998) (hnow : s.now ≤ 18446744073709551615) (A : Option Addr) (c : Nat) (bs : List UInt8) (hr : R5 w A bs) (hc : bs.length ≤ c) (f : Fate) (hf : f.by_ < 65536) :
    Calls Try.prog 91 #[.pointer (some ⟨b, 0, none⟩), .int .i64 1, .slice A bs.length c, .agg f.cells.toArray] w
      (Did base b w { s with u1 := ins (ins s.u1 ⟨later s.now 1, .slice A bs.length c, bs⟩) ⟨later s.now (1 + f.by_), .slice A bs.length c, bs⟩ } F v0) := by
  have hbs : base ≤ w0.heap.size := by have := h.hb; have := h.blk.lt; omega
  have hbw : base ≤ w.heap.size := by have := hB.size; omega
  have HP1 := Lib.hid (fun W (hW : Below w0.heap.size w0 W) (hrW : R5 W A bs) => safe1_any base b s F v0 v1 w0 W h hW hso (by omega) hnow A c bs hrW hc f)
  have HP2 := Lib.hid (fun W v1' (hN : NetAt base W b { s with u1 := ins s.u1 ⟨later s.now 1, .slice A bs.length c, bs⟩ } F v0 v1') (hrW : R5 W A bs) => late1_any base b _ F v0 v1' W W hN (Below.refl _ _) (ins_sorted _ hso) (by rw [ins_length]; omega) hnow A c bs hrW hc f hf)
  have HR := Lib.hid hr
  have HBB := Lib.hid hB
  have HA := Lib.hid hbw
  obtain ⟨fk, fb, fa, fx⟩ := f
  simp only [Fate.cells] at HP1 HP2 ⊢
  have HT := Lib.hid (Blk.new w 79 #[.int .i64 fk, .int .u16 fb, .int .i64 fa, .int .u8 fx])
  clear h hr hB hbw
  go_enter Try.func91, Try.ntmps91
  go_wp2_with (first
    | (go_at_call 89; refine (HP1.out _ (HBB.out.alloc HBB.out.size _) (HR.out.keep fun g cur hg => Below.heap_alloc w _ g (Array.getElem?_eq_some_iff.1 hg).1)).mono ?_; rintro e w1 ⟨⟨v, rfl⟩, v1', hN, hF⟩
       have hT1 := HT.out.fr hF (by decide) (by decide)
       have q0 := hT1.cell 0
       have q1 := hT1.cell 1
       have q2 := hT1.cell 2
       have q3 := hT1.cell 3
       simp at q0 q1 q2 q3
       have HN := Lib.hid hN
       have HF := Lib.hid hF
       clear hN hF hT1)
    | (go_at_call 92; refine (HP2.out _ _ HN.out ((HR.out.keep fun g cur hg => Below.heap_alloc w _ g (Array.getElem?_eq_some_iff.1 hg).1).fr HF.out)).mono ?_; rintro e w2 ⟨⟨v, rfl⟩, v2', hN2, hF2⟩))
  go_end0
  exact ⟨⟨_, rfl⟩, v2', hN2, (Fr.alloc HA.out _).trans (HF.out.trans hF2)⟩

theorem spoilt1_any (h : NetAt base w0 b s F v0 v1) (hB : Below w0.heap.size w0 w) (hso : Sorted s.u1) (hn : s.u1.length ≤ 999999) (hnow : s.now ≤ 18446744073709551615) (g c : Nat) (bs : List UInt8)
    (hown : w.ownsRow w0.heap.size 5 1 (.slice (some ⟨g, 0, none⟩) bs.length c) bs.length (bv bs)) (f : Fate) (hf : f.xor = 0) (k : Nat) (hk : k < bs.length)
    (ht : (f.at_.tmod bs.length + bs.length).tmod bs.length = (k : Int)) (hw : IntKind.i64.wrap (f.at_.tmod bs.length + bs.length) = f.at_.tmod bs.length + bs.length) (y : UInt8) (hy : bits .xor .u8 (bs[k].toNat : Nat) 1 = (y.toNat : Nat)) :
    Calls Try.prog 93 #[.pointer (some ⟨b, 0, none⟩), .int .i64 1, .slice (some ⟨g, 0, none⟩) bs.length c, .agg f.cells.toArray] w fun e w' => (∃ v, e = .returned v) ∧ ∃ v1', NetAt base w' b { s with u1 := ins s.u1 ⟨later s.now 1, .slice (some ⟨g, 0, none⟩) bs.length c, bs.set k y⟩ } F v0 v1' ∧ Fr base w0 w' := by
  have hbs : base ≤ w0.heap.size := by have := h.hb; have := h.blk.lt; omega
  obtain ⟨fk, fb, fa, fx⟩ := f
  simp only [Fate.cells] at *
  subst hf
  have hbw : w0.heap.size ≤ w.heap.size := hB.size
  obtain ⟨b', off', he, hcc⟩ := (Rd.of_own hown).byte k hk
  injection he with he; injection he with e1 e2; subst e1; subst e2
  rw [Nat.zero_add] at hcc
  have hgl : g < w.heap.size := World.block_lt_of_cell? w ⟨g, k, none⟩ hcc
  have hgw : w0.heap.size ≤ g := (own_block hown rfl).1
  obtain ⟨W, hW⟩ : ∃ W, W = w.alloc (Obj.cells #[.int .i64 fk, .int .u16 fb, .int .i64 fa, .int .u8 0] 79) := ⟨_, rfl⟩
  have hT : Blk W w.heap.size 79 #[.int .i64 fk, .int .u16 fb, .int .i64 fa, .int .u8 0] := by rw [hW]; exact Blk.new w 79 _
  have hWB : Below w0.heap.size w0 W := by rw [hW]; exact hB.alloc hB.size _
  have hownW : W.ownsRow w0.heap.size 5 1 (.slice (some ⟨g, 0, none⟩) bs.length c) bs.length (bv bs) := own_below hown (by rw [hW]; exact (Below.refl _ w).alloc (Nat.le_refl _) _)
  have hcW : W.cell? ⟨g, k, none⟩ = some (.int .u8 (bs[k].toNat : Nat)) := by rw [hW]; exact cell_alo hcc _
  have hfW : W.frozen? ⟨g, k, none⟩ = false := hownW.frozenAt k
  have hst := hownW.stored k (.int .u8 (y.toNat : Nat))
  rw [bv_set] at hst
  have hT2 := hT.far (p := ⟨g, k, none⟩) (by simp; omega) (.int .u8 (y.toNat : Nat))
  have q0 := hT.cell 0
  have q1 := hT.cell 1
  have q2 := hT.cell 2
  have q3 := hT.cell 3
  simp at q0 q1 q2 q3
  have i0 : (0 : Int) ≤ k := by omega
  have i1 : (k : Int) < bs.length := by omega
  have HP := Lib.hid (safe1_any base b s F v0 v1 w0 (W.setCell ⟨g, k, none⟩ (.int .u8 (y.toNat : Nat))).drew h (hWB.setCell (p := ⟨g, k, none⟩) hgw _).drew hso hn hnow (some ⟨g, 0, none⟩) c (bs.set k y) ((R5.of_own hst.1 (by simp; omega)).1) (by have := own_slice hst.1; obtain ⟨A, c', he, h1, _⟩ := this; injection he with _ _ he; subst he; simpa using h1) ⟨fk, fb, fa, 0⟩)
  simp only [List.length_set, Fate.cells] at HP
  have HF := Lib.hid (Fr.of_below hbs (hWB.setCell (p := ⟨g, k, none⟩) hgw (.int .u8 (y.toNat : Nat))).drew)
  generalize hbk : bs[k] = bk at *
  clear hst hT hT2 hownW hWB hown hcc h hB
  go_enter Try.func93, Try.ntmps93
  go_wp2
  rw [← hW]
  clear hW
  go_still_tail 9, (by kernel_rfl)
  change wpList _ _ _ _ _ W.drew
  go_wp2_with (go_at_call 89; refine (HP.out).mono ?_; rintro e w1 ⟨⟨v, rfl⟩, v1', hN, hF2⟩)
  all_goals (go_end0; exact ⟨⟨_, rfl⟩, v1', hN, HF.out.trans hF2⟩)
end
end Go.Proofs.Ytnbnghihmophpaa
