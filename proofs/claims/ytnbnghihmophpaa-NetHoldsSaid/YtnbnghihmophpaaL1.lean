/- What came in as a slice of bytes reads as a list of bytes. -/
import Derived.Test.YtnbnghihmophpaaL0
import Derived.ProofKit
import Derived.OpenShut
namespace Go.Proofs.Ytnbnghihmophpaa
open Go.RowKit
set_option linter.unusedVariables false
set_option linter.unusedSimpArgs false

/-- A slice of integers that came in: nil; or a row of 'cap' cells, the numbers 'zs', each fitting its kind. -/
def IsRow (k : IntKind) (w : World) (a : Option Addr) (len cap : Nat) (zs : List Int) : Prop :=
  (a = none ∧ len = 0 ∧ cap = 0 ∧ zs = []) ∨
  ∃ x, a = some x ∧ len ≤ cap ∧ cap ≤ maxLen ∧ zs.length = cap ∧ (∀ i, i < zs.length → w.cell? (x.add i) = some (.int k (zs.getD i 0))) ∧ ∀ n ∈ zs, (Lit.int k n).wf = true
theorem wf_u8 {n : Int} (h : (Lit.int .u8 n).wf = true) : 0 ≤ n ∧ n < 256 := by
  have := bounds_u8 h
  omega
theorem rd_of_ints {w : World} {x : Addr} {zs : List Int} {len : Nat} (hl : len ≤ zs.length) (hcell : ∀ i, i < zs.length → w.cell? (x.add i) = some (.int .u8 (zs.getD i 0))) (hwz : ∀ n ∈ zs, (Lit.int .u8 n).wf = true) :
    ∃ xs : List UInt8, xs.length = len ∧ Rd w (some x) (bv xs) := by
  refine ⟨(zs.take len).map fun z => UInt8.ofNat z.toNat, by simp; omega, ?_⟩
  intro j hj
  have hjl : j < len := by simp [bv] at hj; omega
  have h0 := hcell 0 (by omega)
  obtain ⟨b, off, spot⟩ := x
  have hspot : spot = none := by simpa [Addr.add] using World.cell?_spot h0
  subst hspot
  have hc := hcell j (by omega)
  refine ⟨b, off, rfl, ?_⟩
  rw [show (⟨b, off, none⟩ : Addr).add j = ⟨b, off + j, none⟩ from by unfold Addr.add; split <;> simp_all] at hc
  rw [hc]
  have hget : zs.getD j 0 = zs[j]'(by omega) := by simp [List.getD_eq_getElem?_getD, List.getElem?_eq_getElem (show j < zs.length by omega)]
  rw [hget]
  have hw := wf_u8 (hwz (zs[j]'(by omega)) (List.getElem_mem _))
  simp only [bv, List.getElem_map, List.getElem_take]
  congr 2
  simp only [UInt8.toNat_ofNat']
  omega
theorem rd_of_row {w : World} {a : Option Addr} {len cap : Nat} {zs : List Int} (h : IsRow .u8 w a len cap zs) : ∃ xs : List UInt8, xs.length = len ∧ len ≤ cap ∧ cap ≤ maxLen ∧ Rd w a (bv xs) := by
  rcases h with ⟨rfl, rfl, rfl, rfl⟩ | ⟨x, rfl, hl, hm, hz, hc, hw⟩
  · exact ⟨[], rfl, Nat.le_refl _, by simp [maxLen], Rd.nil _ _⟩
  · obtain ⟨xs, h1, h2⟩ := rd_of_ints (len := len) (by omega) hc hw
    exact ⟨xs, h1, hl, hm, h2⟩

section
open Go.ChangeShapes Go.WideShapes Go.ChangeAt
variable {H : Type} {enc : TypeId × Value → H} {P : Program} {w : World} {b0 : Nat} {base : Nat} {spare : Nat → Bool} {held : Bool}
/-- An argument that is a slice of bytes. -/
theorem open_bytes {r : Reach} {t e : TypeId} {v : Value} {d : DataW H} {p : List MemPlace} (ht : P.underlying t = some (.slice e)) (he : P.underlying e = some (.int .u8)) (hc : P.cellsOf e = 1)
    (hv : Value.okWide P w r b0 t v) (h : DataW.Trod enc P w base (fun _ => true) held t v d p) :
    ∃ a len cap, ∃ xs : List UInt8, v = .slice a len cap ∧ len = xs.length ∧ xs.length ≤ cap ∧ cap ≤ maxLen ∧ Rd w a (bv xs) := by
  obtain ⟨a, len, cap, rfl⟩ := okWide_slice ht hv
  obtain ⟨fuel, hf⟩ := h
  rcases open_ints ht he hc hf with ⟨hcs, _⟩ | ⟨x, l, c, zs, hcs, _, hl, hm, hz, _, hcell, hwz⟩
  · simp [Value.cells] at hcs
    obtain ⟨rfl, rfl, rfl⟩ := hcs
    exact ⟨none, 0, 0, [], rfl, rfl, Nat.le_refl _, by simp [maxLen], Rd.nil _ _⟩
  · simp [Value.cells] at hcs
    obtain ⟨rfl, rfl, rfl⟩ := hcs
    obtain ⟨xs, h1, h2⟩ := rd_of_row (.inr ⟨_, rfl, hl, hm, by simpa using hz, hcell, hwz⟩)
    exact ⟨_, _, _, xs, rfl, h1.symm, h1 ▸ h2.1, h2.2.1, h2.2.2⟩
/-- An argument that is an array of n bytes, by value. -/
theorem open_arr {r : Reach} {t e : TypeId} {n : Nat} {v : Value} {d : DataW H} {p : List MemPlace} (ht : P.underlying t = some (.array n e)) (he : P.underlying e = some (.int .u8)) (hce : P.cellsOf e = 1) (hct : P.cellsOf t = n)
    (hv : Value.okWide P w r b0 t v) (h : DataW.Trod enc P w base spare held t v d p) :
    ∃ f : Nat → UInt8, v = .agg ((Array.range n).map fun i => .int .u8 ((f i).toNat : Nat)) := by
  have hagg : ∃ cs, v = .agg cs := by
    simp only [Value.okWide, ht] at hv
    obtain ⟨cs, h1, _⟩ := hv
    exact ⟨cs, h1⟩
  obtain ⟨cs, rfl⟩ := hagg
  obtain ⟨fuel, hf⟩ := h
  obtain ⟨xs, m, _, _, hl, hxl, hi⟩ := DataW.trod_array ht hf
  simp only [Value.cells] at hl hi
  rw [hct] at hl
  have hcs : cs.size = n := by simpa using hl
  have hcell : ∀ i, i < n → ∃ x : UInt8, cs[i]? = some (.int .u8 (x.toNat : Nat)) := by
    intro i hin
    have h1 := hi i hin
    rw [hce, Nat.mul_one] at h1
    have h2 : (cs.toList.drop i).take 1 = [cs[i]'(by omega)] := by
      rw [List.drop_eq_getElem_cons (by simp; omega)]; simp
    rw [h2, List.getElem?_eq_getElem (by omega)] at h1
    obtain ⟨z, hz, _, hw⟩ := DataW.trod_int he h1
    injection hz with hz
    have hb := wf_u8 hw
    refine ⟨UInt8.ofNat z.toNat, ?_⟩
    rw [Array.getElem?_eq_getElem (by omega), hz]
    congr 2
    simp only [UInt8.toNat_ofNat']
    omega
  obtain ⟨f, hfn⟩ : ∃ f : Nat → UInt8, ∀ i, i < n → cs[i]? = some (.int .u8 ((f i).toNat : Nat)) :=
    ⟨fun i => if h : i < n then (hcell i h).choose else 0, fun i h => by simp only [dif_pos h]; exact (hcell i h).choose_spec⟩
  refine ⟨f, ?_⟩
  congr 1
  apply Array.ext
  · simp [hcs]
  · intro i h1 h2
    have hin : i < n := by omega
    have := hfn i hin
    rw [Array.getElem?_eq_getElem h1] at this
    injection this with this
    rw [this]
    simp
end
end Go.Proofs.Ytnbnghihmophpaa
