/- The net: the five kinds of fates, at side 1. -/
import Derived.Test.YtnbnghihmophpaaN6
namespace Go.Proofs.Ytnbnghihmophpaa
open Go.RowKit
set_option maxRecDepth 20000
set_option maxHeartbeats 2000000
set_option linter.unusedVariables false
set_option linter.unusedSimpArgs false

theorem Blk.fr {base : Nat} {w w' : World} {g : Nat} {t : TypeId} {cs : Array Value} (h : Blk w g t cs) (hf : Fr base w w') (h1 : t ≠ 134) (h2 : t ≠ 141) : Blk w' g t cs := (hf.typ g cs t _ h h1 h2).trans h
theorem ins_sorted {ds : List Dg} (d : Dg) (h : Sorted ds) : Sorted (ins ds d) := by
  have hp : ds.Pairwise (fun a b => a.due ≤ b.due) := by
    rw [List.pairwise_iff_getElem]; intro i j hi hj hij; exact h i j hi hj (by omega)
  have hq : (ins ds d).Pairwise (fun a b => a.due ≤ b.due) := by
    clear h
    induction ds with
    | nil => simp [ins]
    | cons x xs ih =>
      have hx := List.pairwise_cons.1 hp
      by_cases hle : x.due ≤ d.due
      · have e : ins (x :: xs) d = x :: ins xs d := by simp [ins, List.takeWhile_cons, List.dropWhile_cons, hle]
        rw [e]
        refine List.pairwise_cons.2 ⟨fun y hy => ?_, ih hx.2⟩
        rcases ins_mem hy with rfl | hy
        · exact hle
        · exact hx.1 y hy
      · have e : ins (x :: xs) d = d :: x :: xs := by simp [ins, List.takeWhile_cons, List.dropWhile_cons, hle]
        rw [e]
        refine List.pairwise_cons.2 ⟨fun y hy => ?_, hp⟩
        rcases List.mem_cons.1 hy with rfl | hy
        · omega
        · have := hx.1 y hy; omega
  intro i j hi hj hij
  rcases Nat.lt_or_eq_of_le hij with hlt | rfl
  · exact List.pairwise_iff_getElem.1 hq i j hi hj hlt
  · exact Nat.le_refl _

def Did (base b : Nat) (w0 : World) (s' : NS) (F v0 : Value) (e : Ending) (w' : World) : Prop := (∃ v, e = .returned v) ∧ ∃ v1', NetAt base w' b s' F v0 v1' ∧ Fr base w0 w'
section
variable (base b : Nat) (s : NS) (F v0 v1 : Value) (w0 w : World)

theorem safe1_any (h : NetAt base w0 b s F v0 v1) (hB : Below w0.heap.size w0 w) (hso : Sorted s.u1) (hn : s.u1.length ≤ 999999) (hnow : s.now ≤ 18446744073709551615) (A : Option Addr) (c : Nat) (bs : List UInt8) (hr : R5 w A bs) (hc : bs.length ≤ c) (f : Fate) :
    Calls Try.prog 89 #[.pointer (some ⟨b, 0, none⟩), .int .i64 1, .slice A bs.length c, .agg f.cells.toArray] w (Did base b w { s with u1 := ins s.u1 ⟨later s.now 1, .slice A bs.length c, bs⟩ } F v0) := by
  have hbs : base ≤ w0.heap.size := by have := h.hb; have := h.blk.lt; omega
  have HP := Lib.hid (fun W (hW : Below w0.heap.size w0 W) (hrW : R5 W A bs) => put1_any base b s F v0 v1 W (h.below hbs hW) hso hn hnow A c bs hrW hc 1 (by omega))
  obtain ⟨fk, fb, fa, fx⟩ := f
  simp only [Fate.cells]
  have HR := Lib.hid hr
  have HBB := Lib.hid hB
  clear h hr hB
  go_enter Try.func89, Try.ntmps89
  go_wp2_with (go_at_call 112; refine (HP.out _ (HBB.out.alloc HBB.out.size _) (HR.out.keep fun g cur hg => Below.heap_alloc w _ g (Array.getElem?_eq_some_iff.1 hg).1)).mono ?_; rintro e w1 ⟨⟨v, rfl⟩, v1', hN, hF⟩)
  go_end0
  exact ⟨⟨_, rfl⟩, v1', hN, (Fr.alloc (by have := HBB.out.size; omega) _).trans hF⟩

theorem late1_any (h : NetAt base w0 b s F v0 v1) (hB : Below w0.heap.size w0 w) (hso : Sorted s.u1) (hn : s.u1.length ≤ 999999) (hnow : s.now ≤ 18446744073709551615) (A : Option Addr) (c : Nat) (bs : List UInt8) (hr : R5 w A bs) (hc : bs.length ≤ c) (f : Fate) (hf : f.by_ < 65536) :
    Calls Try.prog 92 #[.pointer (some ⟨b, 0, none⟩), .int .i64 1, .slice A bs.length c, .agg f.cells.toArray] w (Did base b w { s with u1 := ins s.u1 ⟨later s.now (1 + f.by_), .slice A bs.length c, bs⟩ } F v0) := by
  have hbs : base ≤ w0.heap.size := by have := h.hb; have := h.blk.lt; omega
  have HP := Lib.hid (fun W (hW : Below w0.heap.size w0 W) (hrW : R5 W A bs) => put1_any base b s F v0 v1 W (h.below hbs hW) hso hn hnow A c bs hrW hc (1 + f.by_) (by omega))
  obtain ⟨fk, fb, fa, fx⟩ := f
  simp only [Fate.cells] at hf HP ⊢
  have HR := Lib.hid hr
  have HBB := Lib.hid hB
  have hw1 : IntKind.u64.wrap (1 + (fb : Int)) = ((1 + fb : Nat) : Int) := by rw [IntKind.wrap_u64]; omega
  clear h hr hB
  go_enter Try.func92, Try.ntmps92
  go_wp2_with (go_at_call 112; refine (HP.out _ (HBB.out.alloc HBB.out.size _) (HR.out.keep fun g cur hg => Below.heap_alloc w _ g (Array.getElem?_eq_some_iff.1 hg).1)).mono ?_; rintro e w1 ⟨⟨v, rfl⟩, v1', hN, hF⟩)
  go_end0
  exact ⟨⟨_, rfl⟩, v1', hN, (Fr.alloc (by have := HBB.out.size; omega) _).trans hF⟩

theorem lose1_any (h : NetAt base w0 b s F v0 v1) (hB : Below w0.heap.size w0 w) (hm : s.lost ≤ 18446744073709551615) (x1 x2 : Value) (f : Fate) :
    Calls Try.prog 90 #[.pointer (some ⟨b, 0, none⟩), x1, x2, .agg f.cells.toArray] w (Did base b w { s with lost := sat s.lost } F v0) := by
  have hbs : base ≤ w0.heap.size := by have := h.hb; have := h.blk.lt; omega
  have HP := Lib.hid (fun W (hW : Below w0.heap.size w0 W) => add_any b 6 s.lost W (netCells s F v0 v1) 134 (h.below hbs hW).blk rfl hm)
  have H := Lib.hid h
  have HBB := Lib.hid hB
  clear h hB
  obtain ⟨fk, fb, fa, fx⟩ := f
  simp only [Fate.cells]
  go_enter Try.func90, Try.ntmps90
  go_wp2_with (go_at_call 87; refine (HP.out _ (HBB.out.alloc HBB.out.size _)).mono ?_; rintro e w1 ⟨⟨v, rfl⟩, hb1, hg1, hs1⟩)
  go_end0
  obtain ⟨n1, n2⟩ := (H.out.below hbs (HBB.out.alloc HBB.out.size _)).upd (s' := { s with lost := sat s.lost }) hg1 hb1 rfl rfl rfl
  exact ⟨⟨_, rfl⟩, v1, n1, (Fr.alloc (by have := HBB.out.size; omega) _).trans n2⟩
end
end Go.Proofs.Ytnbnghihmophpaa
