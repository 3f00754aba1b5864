/- The net: what the fates do, for either side. -/
import Derived.Test.YtnbnghihmophpaaN8
namespace Go.Proofs.Ytnbnghihmophpaa
open Go.RowKit
set_option maxRecDepth 20000
set_option maxHeartbeats 4000000
set_option linter.unusedVariables false
set_option linter.unusedSimpArgs false

def NS.u (s : NS) (k : Nat) : List Dg := if k = 0 then s.u0 else s.u1
def NS.setu (s : NS) (k : Nat) (l : List Dg) : NS := if k = 0 then { s with u0 := l } else { s with u1 := l }
def NetIn (base b : Nat) (s : NS) (F : Value) (w : World) : Prop := ∃ v0 v1, NetAt base w b s F v0 v1
def DidIn (base b : Nat) (w0 : World) (s' : NS) (F : Value) (e : Ending) (w' : World) : Prop := (∃ v, e = .returned v) ∧ NetIn base b s' F w' ∧ Fr base w0 w'
theorem NetIn.hbs {base b : Nat} {s : NS} {F : Value} {w : World} (h : NetIn base b s F w) : base ≤ w.heap.size := by
  obtain ⟨v0, v1, h⟩ := h
  have := h.hb; have := h.blk.lt; omega
theorem NetIn.below {base b : Nat} {s : NS} {F : Value} {w w' : World} (h : NetIn base b s F w) (hb : Below w.heap.size w w') : NetIn base b s F w' := by
  have hs := h.hbs
  obtain ⟨v0, v1, h⟩ := h
  exact ⟨v0, v1, h.below hs hb⟩
theorem u_setu (s : NS) (k : Nat) (l : List Dg) : (s.setu k l).u k = l := by unfold NS.u NS.setu; split <;> rfl
theorem setu_setu (s : NS) (k : Nat) (l l' : List Dg) : (s.setu k l).setu k l' = s.setu k l' := by unfold NS.setu; split <;> rfl
theorem setu_now (s : NS) (k : Nat) (l : List Dg) : (s.setu k l).now = s.now := by unfold NS.setu; split <;> rfl
section
variable (base b : Nat) (s : NS) (F : Value) (sd : Nat) (w0 w : World)
theorem putS_any (hsd : sd < 2) (h : NetIn base b s F w) (hso : Sorted (s.u sd)) (hn : (s.u sd).length ≤ 999999) (hnow : s.now ≤ 18446744073709551615) (A : Option Addr) (c : Nat) (bs : List UInt8) (hr : R5 w A bs) (hc : bs.length ≤ c) (L : Nat) (hL : L ≤ 18446744073709551615) :
    Calls Try.prog 112 #[.pointer (some ⟨b, 0, none⟩), .int .i64 sd, .slice A bs.length c, .int .u64 L] w (DidIn base b w (s.setu sd (ins (s.u sd) ⟨later s.now L, .slice A bs.length c, bs⟩)) F) := by
  obtain ⟨v0, v1, h⟩ := h
  rcases (by omega : sd = 0 ∨ sd = 1) with rfl | rfl
  · exact (put0_any base b s F v0 v1 w h hso hn hnow A c bs hr hc L hL).mono fun e w' ⟨he, v', hN, hF⟩ => ⟨he, ⟨v', v1, hN⟩, hF⟩
  · exact (put1_any base b s F v0 v1 w h hso hn hnow A c bs hr hc L hL).mono fun e w' ⟨he, v', hN, hF⟩ => ⟨he, ⟨v0, v', hN⟩, hF⟩

theorem safeS_any (hsd : sd < 2) (h : NetIn base b s F w0) (hB : Below w0.heap.size w0 w) (hso : Sorted (s.u sd)) (hn : (s.u sd).length ≤ 999999) (hnow : s.now ≤ 18446744073709551615) (A : Option Addr) (c : Nat) (bs : List UInt8) (hr : R5 w A bs) (hc : bs.length ≤ c) (f : Fate) :
    Calls Try.prog 89 #[.pointer (some ⟨b, 0, none⟩), .int .i64 sd, .slice A bs.length c, .agg f.cells.toArray] w (DidIn base b w (s.setu sd (ins (s.u sd) ⟨later s.now 1, .slice A bs.length c, bs⟩)) F) := by
  have hbs := h.hbs
  have HP := Lib.hid (fun W (hW : Below w0.heap.size w0 W) (hrW : R5 W A bs) => putS_any base b s F sd W hsd (h.below hW) hso hn hnow A c bs hrW hc 1 (by omega))
  obtain ⟨fk, fb, fa, fx⟩ := f
  simp only [Fate.cells]
  have HR := Lib.hid hr
  have HBB := Lib.hid hB
  clear h hr hB
  go_enter Try.func89, Try.ntmps89
  go_wp2_with (go_at_call 112; refine (HP.out _ (HBB.out.alloc HBB.out.size _) (HR.out.keep fun g cur hg => Below.heap_alloc w _ g (Array.getElem?_eq_some_iff.1 hg).1)).mono ?_; rintro e w1 ⟨⟨v, rfl⟩, hN, hF⟩)
  go_end0
  exact ⟨⟨_, rfl⟩, hN, (Fr.alloc (by have := HBB.out.size; omega) _).trans hF⟩

theorem lateS_any (hsd : sd < 2) (h : NetIn base b s F w0) (hB : Below w0.heap.size w0 w) (hso : Sorted (s.u sd)) (hn : (s.u sd).length ≤ 999999) (hnow : s.now ≤ 18446744073709551615) (A : Option Addr) (c : Nat) (bs : List UInt8) (hr : R5 w A bs) (hc : bs.length ≤ c) (f : Fate) (hf : f.by_ < 65536) :
    Calls Try.prog 92 #[.pointer (some ⟨b, 0, none⟩), .int .i64 sd, .slice A bs.length c, .agg f.cells.toArray] w (DidIn base b w (s.setu sd (ins (s.u sd) ⟨later s.now (1 + f.by_), .slice A bs.length c, bs⟩)) F) := by
  have hbs := h.hbs
  have HP := Lib.hid (fun W (hW : Below w0.heap.size w0 W) (hrW : R5 W A bs) => putS_any base b s F sd W hsd (h.below hW) hso hn hnow A c bs hrW hc (1 + f.by_) (by omega))
  obtain ⟨fk, fb, fa, fx⟩ := f
  simp only [Fate.cells] at hf HP ⊢
  have HR := Lib.hid hr
  have HBB := Lib.hid hB
  have hw1 : IntKind.u64.wrap (1 + (fb : Int)) = ((1 + fb : Nat) : Int) := by rw [IntKind.wrap_u64]; omega
  clear h hr hB
  go_enter Try.func92, Try.ntmps92
  go_wp2_with (go_at_call 112; refine (HP.out _ (HBB.out.alloc HBB.out.size _) (HR.out.keep fun g cur hg => Below.heap_alloc w _ g (Array.getElem?_eq_some_iff.1 hg).1)).mono ?_; rintro e w1 ⟨⟨v, rfl⟩, hN, hF⟩)
  go_end0
  exact ⟨⟨_, rfl⟩, hN, (Fr.alloc (by have := HBB.out.size; omega) _).trans hF⟩

theorem loseS_any (h : NetIn base b s F w0) (hB : Below w0.heap.size w0 w) (hm : s.lost ≤ 18446744073709551615) (x1 x2 : Value) (f : Fate) :
    Calls Try.prog 90 #[.pointer (some ⟨b, 0, none⟩), x1, x2, .agg f.cells.toArray] w (DidIn base b w { s with lost := sat s.lost } F) := by
  obtain ⟨v0, v1, h⟩ := h
  exact (lose1_any base b s F v0 v1 w0 w h hB hm x1 x2 f).mono fun e w' ⟨he, v', hN, hF⟩ => ⟨he, ⟨v0, v', hN⟩, hF⟩

theorem twiceS_any (hsd : sd < 2) (h : NetIn base b s F w0) (hB : Below w0.heap.size w0 w) (hso : Sorted (s.u sd)) (hn : (s.u sd).length ≤ 999998) (hnow : s.now ≤ 18446744073709551615) (A : Option Addr) (c : Nat) (bs : List UInt8) (hr : R5 w A bs) (hc : bs.length ≤ c) (f : Fate) (hf : f.by_ < 65536) :
    Calls Try.prog 91 #[.pointer (some ⟨b, 0, none⟩), .int .i64 sd, .slice A bs.length c, .agg f.cells.toArray] w
      (DidIn base b w (s.setu sd (ins (ins (s.u sd) ⟨later s.now 1, .slice A bs.length c, bs⟩) ⟨later s.now (1 + f.by_), .slice A bs.length c, bs⟩)) F) := by
  have hbw : base ≤ w.heap.size := by have := hB.size; have := h.hbs; omega
  have HP1 := Lib.hid (fun W (hW : Below w0.heap.size w0 W) (hrW : R5 W A bs) => safeS_any base b s F sd w0 W hsd h hW hso (by omega) hnow A c bs hrW hc f)
  have HP2 := Lib.hid (fun W (hN : NetIn base b (s.setu sd (ins (s.u sd) ⟨later s.now 1, .slice A bs.length c, bs⟩)) F W) (hrW : R5 W A bs) => lateS_any base b _ F sd W W hsd hN (Below.refl _ _) (by rw [u_setu]; exact ins_sorted _ hso) (by rw [u_setu, ins_length]; omega) (by rw [setu_now]; exact hnow) A c bs hrW hc f hf)
  simp only [u_setu, setu_setu, setu_now] at HP2
  have HR := Lib.hid hr
  have HBB := Lib.hid hB
  have HA := Lib.hid hbw
  obtain ⟨fk, fb, fa, fx⟩ := f
  simp only [Fate.cells] at HP1 HP2 ⊢
  have HT := Lib.hid (Blk.new w 79 #[.int .i64 fk, .int .u16 fb, .int .i64 fa, .int .u8 fx])
  clear h hr hB hbw
  go_enter Try.func91, Try.ntmps91
  go_wp2_with (first
    | (go_at_call 89; refine (HP1.out _ (HBB.out.alloc HBB.out.size _) (HR.out.keep fun g cur hg => Below.heap_alloc w _ g (Array.getElem?_eq_some_iff.1 hg).1)).mono ?_; rintro e w1 ⟨⟨v, rfl⟩, hN, hF⟩
       have hT1 := HT.out.fr hF (by decide) (by decide)
       have q0 := hT1.cell 0
       have q1 := hT1.cell 1
       have q2 := hT1.cell 2
       have q3 := hT1.cell 3
       simp at q0 q1 q2 q3
       have HN := Lib.hid hN
       have HF := Lib.hid hF
       clear hN hF hT1)
    | (go_at_call 92; refine (HP2.out _ HN.out ((HR.out.keep fun g cur hg => Below.heap_alloc w _ g (Array.getElem?_eq_some_iff.1 hg).1).fr HF.out)).mono ?_; rintro e w2 ⟨⟨v, rfl⟩, hN2, hF2⟩))
  go_end0
  exact ⟨⟨_, rfl⟩, hN2, (Fr.alloc HA.out _).trans (HF.out.trans hF2)⟩

theorem spoiltS_any (hsd : sd < 2) (h : NetIn base b s F w0) (hB : Below w0.heap.size w0 w) (hso : Sorted (s.u sd)) (hn : (s.u sd).length ≤ 999999) (hnow : s.now ≤ 18446744073709551615) (g c : Nat) (bs : List UInt8)
    (hown : w.ownsRow w0.heap.size 5 1 (.slice (some ⟨g, 0, none⟩) bs.length c) bs.length (bv bs)) (f : Fate) (m : Int) (hm : (if (f.xor : Int) > 1 then (f.xor : Int) else 1) = m) (k : Nat) (hk : k < bs.length)
    (ht : (f.at_.tmod bs.length + bs.length).tmod bs.length = (k : Int)) (hw : IntKind.i64.wrap (f.at_.tmod bs.length + bs.length) = f.at_.tmod bs.length + bs.length) (y : UInt8) (hy : bits .xor .u8 (bs[k].toNat : Nat) m = (y.toNat : Nat)) :
    Calls Try.prog 93 #[.pointer (some ⟨b, 0, none⟩), .int .i64 sd, .slice (some ⟨g, 0, none⟩) bs.length c, .agg f.cells.toArray] w fun e w' => (∃ v, e = .returned v) ∧ NetIn base b (s.setu sd (ins (s.u sd) ⟨later s.now 1, .slice (some ⟨g, 0, none⟩) bs.length c, bs.set k y⟩)) F w' ∧ Fr base w0 w' := by
  have hbs := h.hbs
  obtain ⟨fk, fb, fa, fx⟩ := f
  simp only [Fate.cells] at *
  have hbw : w0.heap.size ≤ w.heap.size := hB.size
  obtain ⟨b', off', he, hcc⟩ := (Rd.of_own hown).byte k hk
  injection he with he; injection he with e1 e2; subst e1; subst e2
  rw [Nat.zero_add] at hcc
  have hgl : g < w.heap.size := World.block_lt_of_cell? w ⟨g, k, none⟩ hcc
  have hgw : w0.heap.size ≤ g := (own_block hown rfl).1
  obtain ⟨W, hW⟩ : ∃ W, W = w.alloc (Obj.cells #[.int .i64 fk, .int .u16 fb, .int .i64 fa, .int .u8 fx] 79) := ⟨_, rfl⟩
  have hT : Blk W w.heap.size 79 #[.int .i64 fk, .int .u16 fb, .int .i64 fa, .int .u8 fx] := by rw [hW]; exact Blk.new w 79 _
  have hWB : Below w0.heap.size w0 W := by rw [hW]; exact hB.alloc hB.size _
  have hownW : W.ownsRow w0.heap.size 5 1 (.slice (some ⟨g, 0, none⟩) bs.length c) bs.length (bv bs) := own_below hown (by rw [hW]; exact (Below.refl _ w).alloc (Nat.le_refl _) _)
  have hcW : W.cell? ⟨g, k, none⟩ = some (.int .u8 (bs[k].toNat : Nat)) := by rw [hW]; exact cell_alo hcc _
  have hfW : W.frozen? ⟨g, k, none⟩ = false := hownW.frozenAt k
  have hst := hownW.stored k (.int .u8 (y.toNat : Nat))
  rw [bv_set] at hst
  have hT2 := hT.far (p := ⟨g, k, none⟩) (by simp; omega) (.int .u8 (y.toNat : Nat))
  have q0 := hT.cell 0
  have q1 := hT.cell 1
  have q2 := hT.cell 2
  have q3 := hT.cell 3
  simp at q0 q1 q2 q3
  have i0 : (0 : Int) ≤ k := by omega
  have i1 : (k : Int) < bs.length := by omega
  have HP := Lib.hid (safeS_any base b s F sd w0 (W.setCell ⟨g, k, none⟩ (.int .u8 (y.toNat : Nat))).drew hsd h (hWB.setCell (p := ⟨g, k, none⟩) hgw _).drew hso hn hnow (some ⟨g, 0, none⟩) c (bs.set k y) ((R5.of_own hst.1 (by simp; omega)).1) (by have := own_slice hst.1; obtain ⟨A, c', he, h1, _⟩ := this; injection he with _ _ he; subst he; simpa using h1) ⟨fk, fb, fa, fx⟩)
  simp only [List.length_set, Fate.cells] at HP
  have HF := Lib.hid (Fr.of_below hbs (hWB.setCell (p := ⟨g, k, none⟩) hgw (.int .u8 (y.toNat : Nat))).drew)
  generalize hbk : bs[k] = bk at *
  clear hst hT hT2 hownW hWB hown hcc h hB
  have hcase : (1 : Int) < fx ∨ ¬ (1 : Int) < fx := by omega
  rcases hcase with hc1 | hc1
  all_goals
    simp only [gt_iff_lt, hc1, if_true, if_false] at hm
    subst hm
    go_enter Try.func93, Try.ntmps93
    go_wp2
    rw [← hW]
    clear hW
    go_still_tail 9, (by kernel_rfl)
    change wpList _ _ _ _ _ W.drew
    go_wp2_with (go_at_call 89; refine (HP.out).mono ?_; rintro e w1 ⟨⟨v, rfl⟩, hN, hF2⟩)
    all_goals (go_end0; exact ⟨⟨_, rfl⟩, hN, HF.out.trans hF2⟩)
end
end Go.Proofs.Ytnbnghihmophpaa
