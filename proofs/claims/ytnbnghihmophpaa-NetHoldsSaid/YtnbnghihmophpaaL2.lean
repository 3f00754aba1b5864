/- What came in as fates, and as acts, reads as lists. -/
import Derived.Test.YtnbnghihmophpaaL1
import Derived.Test.YtnbnghihmophpaaN0
namespace Go.Proofs.Ytnbnghihmophpaa
open Go.RowKit
set_option maxRecDepth 20000
set_option linter.unusedVariables false
set_option linter.unusedSimpArgs false

structure AV where
  d : Int
  t : Int
  A : Option Addr
  c : Nat
  b : List UInt8
def AV.cells (a : AV) : List Value := [.int .i64 a.d, .int .i64 a.t, .slice a.A a.b.length a.c]
def acells (l : List AV) : List Value := l.flatMap AV.cells
structure AV.ok (w : World) (a : AV) : Prop where
  d : -9223372036854775808 ≤ a.d ∧ a.d ≤ 9223372036854775807
  t : -9223372036854775808 ≤ a.t ∧ a.t ≤ 9223372036854775807
  b : a.b.length ≤ a.c
  c : a.c ≤ maxLen
  r : Rd w a.A (bv a.b)
theorem acells_length (l : List AV) : (acells l).length = l.length * 3 := by
  induction l with
  | nil => rfl
  | cons d ds ih => simp [acells, AV.cells] at ih ⊢; omega
theorem flat_get {α : Type} {c : Nat} {g : α → List Value} (hg : ∀ a, (g a).length = c) {l : List α} (j : Nat) (h : j < l.length) (i : Nat) (hi : i < c) : (l.flatMap g)[c * j + i]? = (g l[j])[i]? := by
  induction l generalizing j with
  | nil => simp at h
  | cons d ds ih =>
    cases j with
    | zero => simp only [List.flatMap_cons, Nat.mul_zero, Nat.zero_add]; rw [List.getElem?_append_left (by rw [hg]; exact hi)]; rfl
    | succ j =>
      have := ih j (by simpa using h)
      simp only [List.flatMap_cons]
      rw [List.getElem?_append_right (by rw [hg, Nat.mul_succ]; omega)]
      simp only [List.getElem_cons_succ]
      rw [← this, hg]; congr 1; rw [Nat.mul_succ]; omega
theorem flat_len {α : Type} {c : Nat} {g : α → List Value} (hg : ∀ a, (g a).length = c) (l : List α) : (l.flatMap g).length = l.length * c := by
  induction l with
  | nil => simp
  | cons d ds ih => rw [List.flatMap_cons, List.length_append, hg, ih, List.length_cons, Nat.succ_mul]; omega

section
open Go.ChangeShapes Go.WideShapes Go.ChangeAt
variable {H : Type} {enc : TypeId × Value → H} {P : Program} {w : World} {base : Nat} {held : Bool}
theorem wf_i64 {n : Int} (h : (Lit.int .i64 n).wf = true) : -9223372036854775808 ≤ n ∧ n ≤ 9223372036854775807 := by
  simp only [Lit.wf, Bool.and_eq_true, decide_eq_true_eq] at h
  exact h
theorem wf_u16 {n : Int} (h : (Lit.int .u16 n).wf = true) : 0 ≤ n ∧ n < 65536 := by
  simp only [Lit.wf, Bool.and_eq_true, decide_eq_true_eq] at h
  have h1 : (0 : Int) ≤ n := h.1
  have h2 : n ≤ 65535 := h.2
  omega
theorem trod_bytes {t e : TypeId} (ht : P.underlying t = some (.slice e)) (he : P.underlying e = some (.int .u8)) (hc : P.cellsOf e = 1) {fuel : Nat} {cs : List Value} {x : DataW H × List MemPlace} (h : DataW.trod enc P w base (fun _ => true) held fuel t cs = some x) :
    ∃ a len cap, ∃ xs : List UInt8, cs = [.slice a len cap] ∧ len = xs.length ∧ xs.length ≤ cap ∧ cap ≤ maxLen ∧ Rd w a (bv xs) := by
  rcases open_ints ht he hc h with ⟨hcs, _⟩ | ⟨x, l, c, zs, hcs, _, hl, hm, hz, _, hcell, hwz⟩
  · exact ⟨none, 0, 0, [], hcs, rfl, Nat.le_refl _, by simp [maxLen], Rd.nil _ _⟩
  · obtain ⟨xs, h1, h2⟩ := rd_of_row (.inr ⟨_, rfl, hl, hm, by simpa using hz, hcell, hwz⟩)
    exact ⟨_, _, _, xs, hcs, h1.symm, h1 ▸ h2.1, h2.2.1, h2.2.2⟩
theorem trod_act {fuel : Nat} {cs : List Value} {x : DataW H × List MemPlace} (h : DataW.trod enc Try.prog w base (fun _ => true) held fuel 81 cs = some x) : ∃ a : AV, cs = a.cells ∧ a.ok w := by
  obtain ⟨xs, n, _, _, hl, hxl, hf⟩ := DataW.trod_struct Try.underlying81 h
  have hl3 : cs.length = 3 := hl.trans (by kernel_rfl)
  match cs, hl3 with
  | [c0, c1, c2], _ =>
    match xs, hxl with
    | [x0, x1, x2], _ =>
      have h0 := hf 0 { name := "Do", type := 3, offset := 0, embedded := false, tag := "", pkgPath := "", byteOffset := 0 } rfl
      have h1 := hf 1 { name := "To", type := 3, offset := 1, embedded := false, tag := "", pkgPath := "", byteOffset := 8 } rfl
      have h2 := hf 2 { name := "B", type := 23, offset := 2, embedded := false, tag := "", pkgPath := "", byteOffset := 16 } rfl
      dsimp only at h0 h1 h2
      simp only [show Try.prog.cellsOf 3 = 1 by kernel_rfl, show Try.prog.cellsOf 23 = 1 by kernel_rfl, List.drop_zero, List.drop_succ_cons, List.take_succ_cons, List.take_zero] at h0 h1 h2
      obtain ⟨z0, e0, _, w0⟩ := DataW.trod_int Try.underlying3 h0
      obtain ⟨z1, e1, _, w1⟩ := DataW.trod_int Try.underlying3 h1
      obtain ⟨a, len, cap, ys, e2, e3, e4, e5, e6⟩ := trod_bytes Try.underlying23 Try.underlying5 (by kernel_rfl) h2
      injection e0 with e0; injection e1 with e1; injection e2 with e2
      subst e0 e1 e2 e3
      exact ⟨⟨z0, z1, a, cap, ys⟩, rfl, wf_i64 w0, wf_i64 w1, e4, e5, e6⟩
theorem trod_fate {fuel : Nat} {cs : List Value} {x : DataW H × List MemPlace} (h : DataW.trod enc Try.prog w base (fun _ => true) held fuel 79 cs = some x) : ∃ f : Fate, cs = f.cells ∧ f.ok := by
  obtain ⟨xs, n, _, _, hl, hxl, hf⟩ := DataW.trod_struct Try.underlying79 h
  have hl3 : cs.length = 4 := hl.trans (by kernel_rfl)
  match cs, hl3 with
  | [c0, c1, c2, c3], _ =>
    match xs, hxl with
    | [x0, x1, x2, x3], _ =>
      have h0 := hf 0 { name := "Kind", type := 3, offset := 0, embedded := false, tag := "", pkgPath := "", byteOffset := 0 } rfl
      have h1 := hf 1 { name := "By", type := 77, offset := 1, embedded := false, tag := "", pkgPath := "", byteOffset := 8 } rfl
      have h2 := hf 2 { name := "At", type := 3, offset := 2, embedded := false, tag := "", pkgPath := "", byteOffset := 16 } rfl
      have h3 := hf 3 { name := "Xor", type := 5, offset := 3, embedded := false, tag := "", pkgPath := "", byteOffset := 24 } rfl
      dsimp only at h0 h1 h2 h3
      simp only [show Try.prog.cellsOf 3 = 1 by kernel_rfl, show Try.prog.cellsOf 77 = 1 by kernel_rfl, show Try.prog.cellsOf 5 = 1 by kernel_rfl, List.drop_zero, List.drop_succ_cons, List.take_succ_cons, List.take_zero] at h0 h1 h2 h3
      obtain ⟨z0, e0, _, w0⟩ := DataW.trod_int Try.underlying3 h0
      obtain ⟨z1, e1, _, w1⟩ := DataW.trod_int Try.underlying77 h1
      obtain ⟨z2, e2, _, w2⟩ := DataW.trod_int Try.underlying3 h2
      obtain ⟨z3, e3, _, w3⟩ := DataW.trod_int Try.underlying5 h3
      injection e0 with e0; injection e1 with e1; injection e2 with e2; injection e3 with e3
      subst e0 e1 e2 e3
      have r1 := wf_u16 w1
      have r3 := wf_u8 w3
      refine ⟨⟨z0, z1.toNat, z2, z3.toNat⟩, ?_, wf_i64 w0, by simp only; omega, wf_i64 w2, by simp only; omega⟩
      simp only [Fate.cells]
      rw [show ((z1.toNat : Nat) : Int) = z1 by omega, show ((z3.toNat : Nat) : Int) = z3 by omega]
theorem cells?_get {a : Addr} {n : Nat} {cs : List Value} (h : w.cells? base a n = some cs) : cs.length = n ∧ ∀ i, i < n → w.cell? (a.add i) = cs[i]? := by
  unfold World.cells? at h
  split at h
  · exact ⟨by simpa using mapM_some_length h, fun i hi => mapM_some_get h i i (by simp [hi])⟩
  · cases h
/-- A row of elements of c cells, each of which opens. -/
theorem trod_rows {α : Type} (g : α → List Value) (ok : α → Prop) {t e : TypeId} {c : Nat} (hp : 0 < c) (ht : P.underlying t = some (.slice e)) (hc : P.cellsOf e = c) (hg : ∀ a, (g a).length = c)
    (hop : ∀ (fuel : Nat) (cs : List Value) x, DataW.trod enc P w base (fun _ => true) held fuel e cs = some x → ∃ a, cs = g a ∧ ok a) {fuel : Nat} {cs : List Value} {x : DataW H × List MemPlace} (h : DataW.trod enc P w base (fun _ => true) held fuel t cs = some x) :
    ∃ A cap, ∃ l : List α, cs = [.slice A l.length cap] ∧ l.length ≤ cap ∧ cap ≤ maxLen ∧ Rd w A (l.flatMap g) ∧ (A = none → l.length = 0 ∧ cap = 0) ∧ ∀ a ∈ l, ok a := by
  rcases DataW.trod_slice ht h with ⟨hcs, _⟩ | ⟨a, len, cap, elems, rest, n, _, hcs, _, _, hl, hm, hel, hi, _⟩
  · exact ⟨none, 0, [], hcs, Nat.le_refl _, by simp [maxLen], Rd.nil _ _, fun _ => ⟨rfl, rfl⟩, fun a ha => by cases ha⟩
  · have key : ∀ i, i < len → ∃ v : α, ok v ∧ ∀ k, k < c → w.cell? (a.add (i * c + k)) = (g v)[k]? := by
      intro i hlt
      have h1 := hi i hlt
      rw [List.getElem?_eq_getElem (by omega)] at h1
      rw [Option.bind_eq_some_iff] at h1
      obtain ⟨ds, h2, h3⟩ := h1
      rw [hc] at h2
      obtain ⟨v, rfl, hv⟩ := hop _ _ _ h3
      refine ⟨v, hv, fun k hk => ?_⟩
      have := (cells?_get h2).2 k hk
      rwa [Addr.add_add] at this
    have hex : ∃ l : List α, l.length = len ∧ (∀ a ∈ l, ok a) ∧ ∀ i (hi : i < l.length), ∀ k, k < c → w.cell? (a.add (i * c + k)) = (g l[i])[k]? := by
      refine ⟨List.ofFn (fun i : Fin len => (key i.1 i.2).choose), by simp, ?_, ?_⟩
      · intro v hv
        rw [List.mem_ofFn] at hv
        obtain ⟨i, rfl⟩ := hv
        exact (key i.1 i.2).choose_spec.1
      · intro i hi k hk
        simp only [List.getElem_ofFn]
        exact (key i (by simpa using hi)).choose_spec.2 k hk
    obtain ⟨l, rfl, hok, hcell⟩ := hex
    refine ⟨some a, cap, l, hcs, hl, hm, ?_, (fun h => by cases h), hok⟩
    intro j hj
    rw [flat_len hg] at hj
    have hd : j / c < l.length := Nat.div_lt_of_lt_mul (by rw [Nat.mul_comm]; exact hj)
    have hmod : j % c < c := Nat.mod_lt _ hp
    have h1 := hcell (j / c) hd (j % c) hmod
    have hj2 : j / c * c + j % c = j := by rw [Nat.mul_comm]; exact Nat.div_add_mod j c
    have h2 := flat_get hg (j / c) hd (j % c) hmod
    rw [Nat.mul_comm c, hj2] at h2
    rw [hj2, ← h2] at h1
    rw [List.getElem?_eq_getElem (by rw [flat_len hg]; exact hj)] at h1
    have hc0 := hcell 0 (Nat.lt_of_le_of_lt (Nat.zero_le _) hd) 0 hp
    rw [List.getElem?_eq_getElem (by rw [hg]; exact hp)] at hc0
    obtain ⟨b, off, spot⟩ := a
    have hspot : spot = none := by simpa [Addr.add] using World.cell?_spot hc0
    subst hspot
    refine ⟨b, off, rfl, ?_⟩
    rw [show (⟨b, off + j, none⟩ : Addr) = (⟨b, off, none⟩ : Addr).add j from by unfold Addr.add; split <;> simp_all]
    exact h1
theorem open_fates {r : Reach} {b0 : Nat} {v : Value} {d : DataW H} {p : List MemPlace} (hv : Value.okWide Try.prog w r b0 67 v) (h : DataW.Trod enc Try.prog w base (fun _ => true) held 67 v d p) :
    ∃ A cap, ∃ l : List Fate, v = .slice A l.length cap ∧ l.length ≤ cap ∧ cap ≤ maxLen ∧ Rd w A (fcells l) ∧ (A = none → l.length = 0 ∧ cap = 0) ∧ ∀ a ∈ l, a.ok := by
  obtain ⟨a, len, cap, rfl⟩ := okWide_slice Try.underlying67 hv
  obtain ⟨fuel, hf⟩ := h
  obtain ⟨A, cap', l, hcs, r⟩ := trod_rows Fate.cells Fate.ok (c := 4) (by omega) Try.underlying67 (by kernel_rfl) (fun a => rfl) (fun _ _ _ h => trod_fate h) hf
  simp [Value.cells] at hcs
  obtain ⟨rfl, rfl, rfl⟩ := hcs
  exact ⟨_, _, l, rfl, r⟩
theorem open_acts {r : Reach} {b0 : Nat} {v : Value} {d : DataW H} {p : List MemPlace} (hv : Value.okWide Try.prog w r b0 68 v) (h : DataW.Trod enc Try.prog w base (fun _ => true) held 68 v d p) :
    ∃ A cap, ∃ l : List AV, v = .slice A l.length cap ∧ l.length ≤ cap ∧ cap ≤ maxLen ∧ Rd w A (acells l) ∧ (A = none → l.length = 0 ∧ cap = 0) ∧ ∀ a ∈ l, a.ok w := by
  obtain ⟨a, len, cap, rfl⟩ := okWide_slice Try.underlying68 hv
  obtain ⟨fuel, hf⟩ := h
  obtain ⟨A, cap', l, hcs, r⟩ := trod_rows AV.cells (AV.ok w) (c := 3) (by omega) Try.underlying68 (by kernel_rfl) (fun a => rfl) (fun _ _ _ h => trod_act h) hf
  simp [Value.cells] at hcs
  obtain ⟨rfl, rfl, rfl⟩ := hcs
  exact ⟨_, _, l, rfl, r⟩
theorem open_act {r : Reach} {b0 : Nat} {v : Value} {d : DataW H} {p : List MemPlace} (hv : Value.okWide Try.prog w r b0 81 v) (h : DataW.Trod enc Try.prog w base (fun _ => true) held 81 v d p) :
    ∃ a : AV, v = .agg a.cells.toArray ∧ a.ok w := by
  obtain ⟨cs, rfl, _⟩ := okWide_struct Try.underlying81 hv
  obtain ⟨fuel, hf⟩ := h
  obtain ⟨a, ha, hok⟩ := trod_act hf
  simp only [Value.cells] at ha
  exact ⟨a, by rw [← ha], hok⟩
end
end Go.Proofs.Ytnbnghihmophpaa
