/- The net: the next fate. -/
import Derived.Test.YtnbnghihmophpaaN4
import Derived.BigRegion
namespace Go.Proofs.Ytnbnghihmophpaa
open Go.RowKit
set_option maxRecDepth 20000
set_option maxHeartbeats 2000000
set_option linter.unusedVariables false
set_option linter.unusedSimpArgs false

/-- 'new(T)', the new world behind a name. -/
theorem wpList_alloc_e {P : Program} {ops : Array Oper} {rest : List Oper} {o : Oper} {a : Act} {w : World} {Q : Exit → Act → World → Prop} (hgd : o.guard = none) (T : TypeId) (ho : o.op = .alloc T) (cs : Array Value) (hz : (P.info? T).map (·.zero) = some (some (.agg cs)))
    (h : ∀ w1, Blk w1 w.heap.size T cs → Below w.heap.size w w1 → w1.heap.size = w.heap.size + 1 → wpList P ops Q rest (a.put o.dst (.pointer (some ⟨w.heap.size, 0, none⟩))) w1) : wpList P ops Q (o :: rest) a w :=
  wpList_alloc_z hgd T ho cs hz (h _ (Blk.new w T cs) ((Below.refl _ w).alloc (Nat.le_refl _) _) (by simp))
theorem below_fr {base : Nat} {w w1 : World} (hs : base ≤ w.heap.size) (h : Below w.heap.size w w1) : Fr base w w1 := Fr.of_below hs h
theorem cell_below {w w1 : World} {a : Addr} {v : Value} (h : w.cell? a = some v) (hb : Below w.heap.size w w1) : w1.cell? a = some v := by
  have hl := World.block_lt_of_cell? w a h
  exact (World.cell?_of_block (hb.block _ hl)).trans h

theorem cell_alo {w : World} {a : Addr} {v : Value} (h : w.cell? a = some v) (o : Obj) : (w.alloc o).cell? a = some v :=
  cell_below h ((Below.refl _ w).alloc (Nat.le_refl _) _)

theorem below_set_under {w w3 : World} (hB : Below w.heap.size w w3) (b i : Nat) (u : Value) : Below (w.setCell ⟨b, i, none⟩ u).heap.size (w.setCell ⟨b, i, none⟩ u) (w3.setCell ⟨b, i, none⟩ u) := by
  have hs := hB.size
  refine ⟨hB.os, hB.tape, hB.output, by simpa [World.setCell] using hs, fun k hk => ?_⟩
  have hk' : k < w.heap.size := by simpa [World.setCell] using hk
  have := hB.block k hk'
  simp only [World.setCell, Array.getElem?_modify, this]
theorem NetAt.one {base : Nat} {w : World} {b : Nat} {s s' : NS} {F v0 v1 : Value} (h : NetAt base w b s F v0 v1) (i : Nat) (u : Value) (hc : (netCells s F v0 v1).setIfInBounds i u = netCells s' F v0 v1)
    (e1 : s'.fts = s.fts) (e2 : s'.u0 = s.u0) (e3 : s'.u1 = s.u1) : NetAt base (w.setCell ⟨b, i, none⟩ u) b s' F v0 v1 ∧ Fr base w (w.setCell ⟨b, i, none⟩ u) :=
  h.upd ⟨rfl, rfl, rfl, by simp [World.setCell], fun k _ hk => Below.heap_setCell w ⟨b, i, none⟩ u k (fun e => hk (by rw [e]))⟩ (hc ▸ h.blk.set_ i u) e1 e2 e3

theorem Blk.set4 {w : World} {g : Nat} {t : TypeId} {x0 x1 x2 x3 : Value} (h : Blk w g t #[x0, x1, x2, x3]) (a b c d : Value) :
    Blk ((((w.setCell ⟨g, 0, none⟩ a).setCell ⟨g, 1, none⟩ b).setCell ⟨g, 2, none⟩ c).setCell ⟨g, 3, none⟩ d) g t #[a, b, c, d] :=
  (((h.set_ 0 a).set_ 1 b).set_ 2 c).set_ 3 d
theorem Blk.drew1 {w : World} {g : Nat} {t : TypeId} {cs : Array Value} (h : Blk w g t cs) : Blk w.drew g t cs := h
theorem ret_cell {P : Program} {fn : Func} {p : Tmp} {ty : TypeId} {R : Ending → World → Prop} {a : Act} {w : World} (h : fn.results = #[.cell p ty]) (g : Nat) (t : TypeId) (cs : Array Value) (d : TypeDesc)
    (hp : a.tmps.getD p undef = .pointer (some ⟨g, 0, none⟩)) (hu : P.underlying ty = some d) (hd : (match d with | .struct _ | .array _ _ => true | _ => false) = true) (hi : (P.info? ty).map (·.size) = some cs.size)
    (hdf : a.defers = []) (hg : Blk w g t cs) (hr : R (.returned (.agg cs)) w) : bodyPost P fn R .ret a w :=
  bodyPost_ret (results_cell_row h _ _ g t cs (0, 0) d hp hg hu hd hi) hdf hr

def Fate.norm (f : Fate) : Fate := if f.kind < 0 ∨ 5 ≤ f.kind then { f with kind := 0 } else f
def noFate : Fate := ⟨0, 0, 0, 0⟩
def NS.fate (s : NS) : Fate := match s.fts[s.next]? with | some f => f.norm | none => noFate
def NS.step (s : NS) : NS := if s.fts.length = 0 then s else { s with next := (s.next + 1) % s.fts.length }
def NS.nextOk (s : NS) : Prop := s.fts.length = 0 ∨ s.next < s.fts.length

theorem NetAt.c0 {base : Nat} {w : World} {b : Nat} {s : NS} {F v0 v1 : Value} (h : NetAt base w b s F v0 v1) : w.cell? ⟨b, 0, none⟩ = some F ∧ w.cell? ⟨b, 1, none⟩ = some (.int .i64 s.next) ∧ w.cell? ⟨b, 2, none⟩ = some (.int .u64 s.now) ∧ w.cell? ⟨b, 3, none⟩ = some v0 ∧ w.cell? ⟨b, 4, none⟩ = some v1 := by
  refine ⟨?_, ?_, ?_, ?_, ?_⟩ <;> (rw [h.blk.cell]; rfl)

theorem fate_any (base b : Nat) (s : NS) (F v0 v1 : Value) (w : World) (h : NetAt base w b s F v0 v1) (hn : s.nextOk) (hl : s.fts.length ≤ 1000000) (hok : ∀ f ∈ s.fts, f.ok) :
    Calls Try.prog 94 #[.pointer (some ⟨b, 0, none⟩)] w fun e w' => e = .returned (.agg s.fate.cells.toArray) ∧ NetAt base w' b s.step F v0 v1 ∧ Fr base w w' := by
  have hbs : base ≤ w.heap.size := by have := h.hb; have := h.blk.lt; omega
  have hb := h.blk.lt
  obtain ⟨c0, c1, -, -, -⟩ := h.c0
  have hfz := h.blk.frozen 1
  obtain ⟨A, c, hFe, hnc, hcm⟩ := own_slice h.ft
  by_cases h0 : s.fts.length = 0
  · have hf : s.fate = noFate := by
      unfold NS.fate; rw [List.getElem?_eq_none (by omega)]
    have hst : s.step = s := by unfold NS.step; rw [if_pos h0]
    rw [hst, hf]
    rw [h0] at hFe
    have H := Lib.hid h
    clear h hst hf
    subst hFe
    go_enter Try.func94, Try.ntmps94
    go_wp2
    refine bodyPost_ret (results_cell_row rfl _ _ w.heap.size 79 #[.int .i64 0, .int .u16 0, .int .i64 0, .int .u8 0] (0, 0) _ rfl (Blk.new w _ _) Try.underlying79 rfl (by kernel_rfl)) rfl ?_
    exact ⟨rfl, H.out.below hbs ((Below.refl _ w).alloc (Nat.le_refl _) _), Fr.alloc hbs _⟩
  · obtain ⟨g, hA⟩ : ∃ g, A = some ⟨g, 0, none⟩ := by
      rcases h.ft.2 with ⟨he, h1⟩ | ⟨g, cap, cur, he, _⟩
      · omega
      · rw [hFe] at he; injection he with he; exact ⟨g, he⟩
    have hnx : s.next < s.fts.length := hn.resolve_left h0
    have hrd := Rd.of_own (hFe ▸ h.ft)
    obtain ⟨f, hf⟩ : ∃ f, f = s.fts[s.next] := ⟨_, rfl⟩
    have hcf : ∀ i (hi : i < 4), w.cell? ⟨g, s.next * 4 + i, none⟩ = some (f.cells[i]'(by simpa [Fate.cells] using hi)) := by
      intro i hi
      obtain ⟨b', off, he, hc⟩ := hrd (4 * s.next + i) (by rw [fcells_length]; omega)
      rw [hA] at he; injection he with he; injection he with e1 e2; subst e1; subst e2
      rw [show s.next * 4 + i = 0 + (4 * s.next + i) by omega, hc, ← List.getElem?_eq_getElem, fcells_get s.next hnx i hi, ← hf, List.getElem?_eq_getElem]
    have k0 := hcf 0 (by omega)
    have k1 := hcf 1 (by omega)
    have k2 := hcf 2 (by omega)
    have k3 := hcf 3 (by omega)
    simp only [Fate.cells, List.getElem_cons_zero, List.getElem_cons_succ, Nat.add_zero] at k0 k1 k2 k3
    have hfo := hok f (by rw [hf]; exact List.getElem_mem _)
    subst hA
    subst hFe
    have HF := Lib.hid (show s.fts[s.next]? = some f by rw [hf, List.getElem?_eq_getElem])
    have H := Lib.hid h
    have hlen : ¬ s.fts.length = 0 := h0
    have hsn : Hid (s.step = { s with next := (s.next + 1) % s.fts.length }) := if_neg h0
    clear h hf hcf hrd hn hok
    generalize hL : s.fts.length = L at *
    generalize hX : s.next = X at *
    have hx0 : (0 : Int) ≤ X := by omega
    have hx1 : (X : Int) < L := by omega
    have hw1 : IntKind.i64.wrap ((X : Int) + 1) = (X : Int) + 1 := by rw [IntKind.wrap_i64]; omega
    obtain ⟨fk, fb, fa, fx⟩ := f
    simp only [Fate.ok] at hfo k0 k1 k2 k3
    have MARK1 : True := trivial
    have hz79 : (Try.prog.info? 79).map (·.zero) = some (some (.agg #[.int .i64 0, .int .u16 0, .int .i64 0, .int .u8 0])) := by kernel_rfl
    have HZ := Lib.hid hz79
    clear hz79
    go_enter Try.func94, Try.ntmps94
    go_wp2_with (refine wpList_alloc_e rfl 79 rfl _ HZ.out ?_; clear MARK1; intro w1 hb1 hbel1 hs1; replace c0 := cell_below c0 hbel1; replace c1 := cell_below c1 hbel1; replace k0 := cell_below k0 hbel1; replace k1 := cell_below k1 hbel1; replace k2 := cell_below k2 hbel1; replace k3 := cell_below k3 hbel1; have m0 := cell_alo k0; have m1 := cell_alo k1; have m2 := cell_alo k2; have m3 := cell_alo k3; have m4 := cell_alo c0; have m5 := cell_alo c1)
    go_region
    obtain ⟨w3, hw3⟩ : ∃ w3, w3 = (w1.alloc (Obj.cells #[.int .i64 fk, .int .u16 fb, .int .i64 fa, .int .u8 fx] 79)).drew := ⟨_, rfl⟩
    have B2 : Blk w3 w.heap.size 79 #[.int .i64 0, .int .u16 0, .int .i64 0, .int .u8 0] := by rw [hw3]; exact hb1.alloc _
    have B3 : Blk w3 (w.heap.size + 1) 79 #[.int .i64 fk, .int .u16 fb, .int .i64 fa, .int .u8 fx] := by rw [hw3, ← hs1]; exact Blk.new w1 _ _
    have BE : Below w.heap.size w w3 := by rw [hw3]; exact (hbel1.alloc (by omega) _).drew
    have d0 : w3.cell? ⟨b, 0, none⟩ = some (.slice (some ⟨g, 0, none⟩) L c) := by rw [hw3]; exact m4 _
    have d1 : w3.cell? ⟨b, 1, none⟩ = some (.int .i64 X) := by rw [hw3]; exact m5 _
    rw [← hw3]
    have hfz3 : w3.frozen? ⟨b, 1, none⟩ = false := (H.out.below hbs BE).blk.frozen 1
    clear hw3 m0 m1 m2 m3 m4 m5 k0 k1 k2 k3 c0 c1 hb1 hbel1 hs1 hfz
    have HB2 := Lib.hid B2
    have HBE := Lib.hid BE
    have q0 := B3.cell 0
    have q1 := B3.cell 1
    have q2 := B3.cell 2
    have q3 := B3.cell 3
    have qf := B3.frozen 0
    have r0 := B2.cell 0
    have r1 := B2.cell 1
    have r2 := B2.cell 2
    have r3 := B2.cell 3
    have rf0 := B2.frozen 0
    have rf1 := B2.frozen 1
    have rf2 := B2.frozen 2
    have rf3 := B2.frozen 3
    have HB3 := Lib.hid B3
    simp at q0 q1 q2 q3 r0 r1 r2 r3
    clear B2 B3 BE
    have hmod : ((X : Int) + 1) % L = (((X + 1) % L : Nat) : Int) := by simp
    have HM := Lib.hid hmod
    obtain ⟨V, hV⟩ : ∃ V, V = w.setCell ⟨b, 1, none⟩ (.int .i64 (((X : Int) + 1) % L)) := ⟨_, rfl⟩
    have hVs : V.heap.size = w.heap.size := by rw [hV]; simp [World.setCell]
    have HK : Hid (∀ W', Below V.heap.size V W' → Hid (NetAt base W' b s.step (.slice (some ⟨g, 0, none⟩) L c) v0 v1 ∧ Fr base w W')) := by
      intro W' hW'
      obtain ⟨h1, h2⟩ := H.out.one (s' := s.step) 1 (.int .i64 (((X : Int) + 1) % L)) (by rw [hsn.out, hmod]; rfl) (by rw [hsn.out]) (by rw [hsn.out]) (by rw [hsn.out])
      rw [← hV] at h1 h2
      exact ⟨h1.below (by omega) hW', h2.trans (Fr.of_below (by omega) hW')⟩
    have HBV : Hid (Below V.heap.size V (w3.setCell ⟨b, 1, none⟩ (.int .i64 (((X : Int) + 1) % L)))) := by
      rw [hV]; exact below_set_under HBE.out b 1 (.int .i64 (((X : Int) + 1) % L))
    have HVS := Lib.hid hVs
    clear hV hVs
    have HFT : Hid (s.fate = (⟨fk, fb, fa, fx⟩ : Fate).norm) := by
      show _ = _
      unfold NS.fate
      rw [hX, HF.out]
    have hbne : w.heap.size ≠ b := by omega
    have hnn : w.heap.size ≠ w.heap.size + 1 := by omega
    have hp : V.heap.size ≤ w.heap.size := by rw [HVS.out]; exact Nat.le_refl _
    have hp1 : V.heap.size ≤ w.heap.size + 1 := by omega
    clear hmod
    by_cases hk : fk < 0 ∨ 5 ≤ fk
    · have hfin : Hid (s.fate = ⟨0, fb, fa, fx⟩) := by rw [HFT.out]; exact if_pos hk
      have HB3a := Lib.hid (HB3.out.far (p := ⟨b, 1, none⟩) (by simp; omega) (.int .i64 (((X : Int) + 1) % L)))
      rcases (by omega : fk < 0 ∨ 0 ≤ fk) with hk0 | hk0
      · have hk1 : decide (fk < 0) = true := by simp; omega
        clear hk
        go_wp2
        go_still_tail 13, (by kernel_rfl)
        change wpList _ _ _ _ _ w3.drew
        go_wp2
        refine ret_cell rfl w.heap.size 79 #[.int .i64 0, .int .u16 fb, .int .i64 fa, .int .u8 fx] _ rfl Try.underlying79 rfl (by kernel_rfl) rfl ?_ ?_
        · exact ((HB2.out.far (p := ⟨b, 1, none⟩) hbne _).far (p := ⟨w.heap.size + 1, 0, none⟩) hnn _).set4 _ _ _ _ |>.drew1
        refine ⟨by rw [hfin.out]; rfl, HK.out _ ?_⟩
        exact (((((HBV.out.setCell (p := ⟨w.heap.size + 1, 0, none⟩) hp1 _).setCell (p := ⟨w.heap.size, 0, none⟩) hp _).setCell (p := ⟨w.heap.size, 1, none⟩) hp _).setCell (p := ⟨w.heap.size, 2, none⟩) hp _).setCell (p := ⟨w.heap.size, 3, none⟩) hp _).drew
      · have hk1 : decide (fk < 0) = false := by simp; omega
        have hk2 : decide (5 ≤ fk) = true := by simp; omega
        clear hk
        go_wp2
        go_still_tail 13, (by kernel_rfl)
        change wpList _ _ _ _ _ w3.drew
        go_wp2
        refine ret_cell rfl w.heap.size 79 #[.int .i64 0, .int .u16 fb, .int .i64 fa, .int .u8 fx] _ rfl Try.underlying79 rfl (by kernel_rfl) rfl ?_ ?_
        · exact ((HB2.out.far (p := ⟨b, 1, none⟩) hbne _).far (p := ⟨w.heap.size + 1, 0, none⟩) hnn _).set4 _ _ _ _ |>.drew1
        refine ⟨by rw [hfin.out]; rfl, HK.out _ ?_⟩
        exact (((((HBV.out.setCell (p := ⟨w.heap.size + 1, 0, none⟩) hp1 _).setCell (p := ⟨w.heap.size, 0, none⟩) hp _).setCell (p := ⟨w.heap.size, 1, none⟩) hp _).setCell (p := ⟨w.heap.size, 2, none⟩) hp _).setCell (p := ⟨w.heap.size, 3, none⟩) hp _).drew
    · have hk1 : decide (fk < 0) = false := by simp; omega
      have hk2 : decide (5 ≤ fk) = false := by simp; omega
      have hfin : Hid (s.fate = ⟨fk, fb, fa, fx⟩) := by rw [HFT.out]; exact if_neg hk
      go_wp2
      go_still_tail 13, (by kernel_rfl)
      change wpList _ _ _ _ _ w3.drew
      go_wp2
      refine ret_cell rfl w.heap.size 79 #[.int .i64 fk, .int .u16 fb, .int .i64 fa, .int .u8 fx] _ rfl Try.underlying79 rfl (by kernel_rfl) rfl ?_ ?_
      · exact (HB2.out.far (p := ⟨b, 1, none⟩) hbne _).set4 _ _ _ _ |>.drew1
      refine ⟨by rw [hfin.out]; rfl, HK.out _ ?_⟩
      exact ((((HBV.out.setCell (p := ⟨w.heap.size, 0, none⟩) hp _).setCell (p := ⟨w.heap.size, 1, none⟩) hp _).setCell (p := ⟨w.heap.size, 2, none⟩) hp _).setCell (p := ⟨w.heap.size, 3, none⟩) hp _).drew
end Go.Proofs.Ytnbnghihmophpaa
