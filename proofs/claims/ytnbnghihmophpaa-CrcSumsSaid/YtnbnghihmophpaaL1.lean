/- What came in as a slice of bytes reads as a list of bytes. -/
import Derived.Test.YtnbnghihmophpaaL0
import Derived.ProofKit
import Derived.OpenShut
namespace Go.Proofs.Ytnbnghihmophpaa
open Go.RowKit
set_option linter.unusedVariables false
set_option linter.unusedSimpArgs false

/-- A slice of integers that came in: nil; or a row of 'cap' cells, the numbers 'zs', each fitting its kind. -/
def IsRow (k : IntKind) (w : World) (a : Option Addr) (len cap : Nat) (zs : List Int) : Prop :=
  (a = none ∧ len = 0 ∧ cap = 0 ∧ zs = []) ∨
  ∃ x, a = some x ∧ len ≤ cap ∧ cap ≤ maxLen ∧ zs.length = cap ∧ (∀ i, i < zs.length → w.cell? (x.add i) = some (.int k (zs.getD i 0))) ∧ ∀ n ∈ zs, (Lit.int k n).wf = true
theorem wf_u8 {n : Int} (h : (Lit.int .u8 n).wf = true) : 0 ≤ n ∧ n < 256 := by
  have := bounds_u8 h
  omega
theorem rd_of_ints {w : World} {x : Addr} {zs : List Int} {len : Nat} (hl : len ≤ zs.length) (hcell : ∀ i, i < zs.length → w.cell? (x.add i) = some (.int .u8 (zs.getD i 0))) (hwz : ∀ n ∈ zs, (Lit.int .u8 n).wf = true) :
    ∃ xs : List UInt8, xs.length = len ∧ Rd w (some x) (bv xs) := by
  refine ⟨(zs.take len).map fun z => UInt8.ofNat z.toNat, by simp; omega, ?_⟩
  intro j hj
  have hjl : j < len := by simp [bv] at hj; omega
  have h0 := hcell 0 (by omega)
  obtain ⟨b, off, spot⟩ := x
  have hspot : spot = none := by simpa [Addr.add] using World.cell?_spot h0
  subst hspot
  have hc := hcell j (by omega)
  refine ⟨b, off, rfl, ?_⟩
  rw [show (⟨b, off, none⟩ : Addr).add j = ⟨b, off + j, none⟩ from by unfold Addr.add; split <;> simp_all] at hc
  rw [hc]
  have hget : zs.getD j 0 = zs[j]'(by omega) := by simp [List.getD_eq_getElem?_getD, List.getElem?_eq_getElem (show j < zs.length by omega)]
  rw [hget]
  have hw := wf_u8 (hwz (zs[j]'(by omega)) (List.getElem_mem _))
  simp only [bv, List.getElem_map, List.getElem_take]
  congr 2
  simp only [UInt8.toNat_ofNat']
  omega
theorem rd_of_row {w : World} {a : Option Addr} {len cap : Nat} {zs : List Int} (h : IsRow .u8 w a len cap zs) : ∃ xs : List UInt8, xs.length = len ∧ len ≤ cap ∧ cap ≤ maxLen ∧ Rd w a (bv xs) := by
  rcases h with ⟨rfl, rfl, rfl, rfl⟩ | ⟨x, rfl, hl, hm, hz, hc, hw⟩
  · exact ⟨[], rfl, Nat.le_refl _, by simp [maxLen], Rd.nil _ _⟩
  · obtain ⟨xs, h1, h2⟩ := rd_of_ints (len := len) (by omega) hc hw
    exact ⟨xs, h1, hl, hm, h2⟩
end Go.Proofs.Ytnbnghihmophpaa
