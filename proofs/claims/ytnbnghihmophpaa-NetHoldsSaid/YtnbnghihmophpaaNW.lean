/- The net beside rows of numbers, in memory. -/
import Derived.Test.YtnbnghihmophpaaNV
namespace Go.Proofs.Ytnbnghihmophpaa
open Go.RowKit
set_option maxRecDepth 20000
set_option maxHeartbeats 4000000
set_option linter.unusedVariables false
set_option linter.unusedSimpArgs false

def KE (e : TypeId) (w w' : World) : Prop := ∀ (g : Nat) (c : Array Value) (t : TypeId) (z : Nat × Nat), w.heap[g]? = some (Obj.cells c t z) → t ≠ e → w'.heap[g]? = w.heap[g]?
theorem NetAt.keepE {e : TypeId} {base : Nat} {w w' : World} {b : Nat} {s : NS} {F v0 v1 : Value} (h : NetAt base w b s F v0 v1) (hk : KE e w w') (h1 : e ≠ 134) (h2 : e ≠ 141) (h3 : e ≠ 79) (h4 : e ≠ 5) : NetAt base w' b s F v0 v1 := by
  have hd : ∀ {d : Dg}, DatAt w d → DatAt w' d := fun {d} ⟨A, c, a1, a2, a3⟩ => ⟨A, c, a1, a2, a3.keep fun g cur hc => hk g _ _ _ hc (Ne.symm h4)⟩
  have ho : ∀ {v : Value} {n size : Nat} {xs : List Value} {t : TypeId}, t ≠ e → w.ownsRow base t size v n xs → w'.ownsRow base t size v n xs := fun ht h => own_keep h fun g hg => by obtain ⟨_, cur, hc⟩ := own_block h hg; exact hk g _ _ _ hc ht
  exact ⟨h.hb, (hk _ _ _ _ h.blk (Ne.symm h1)).trans h.blk, ho (Ne.symm h3) h.ft, ⟨ho (Ne.symm h2) h.r0.1, fun d hm => hd (h.r0.2 d hm)⟩, ⟨ho (Ne.symm h2) h.r1.1, fun d hm => hd (h.r1.2 d hm)⟩, h.ne⟩
theorem NetR.keepE {e : TypeId} {base : Nat} {w w' : World} {b : Nat} {a : AS} {F : Value} (h : NetR base b a F w) (hk : KE e w w') (h1 : e ≠ 134) (h2 : e ≠ 141) (h3 : e ≠ 79) (h4 : e ≠ 5) : NetR base b a F w' := by
  obtain ⟨s, ⟨v0, v1, hN⟩, r⟩ := h
  exact ⟨s, ⟨v0, v1, hN.keepE hk h1 h2 h3 h4⟩, r⟩
theorem KE.grown {e : TypeId} {w w' : World} {v : Value} {base n size : Nat} {xs : List Value} (ho : w.ownsRow base e size v n xs) (hg : w.grownBy w' v.ownBlock) : KE e w w' := fun g c t z hc ht => hg.block g (Array.getElem?_eq_some_iff.1 hc).1 (fun eq => by
  obtain ⟨_, cur, hc'⟩ := own_block ho eq.symm
  rw [hc'] at hc; injection hc with hc; injection hc with _ hc _; exact ht hc.symm)
theorem own_KE {e t : TypeId} {w w' : World} {base n size : Nat} {v : Value} {xs : List Value} (h : w.ownsRow base t size v n xs) (hk : KE e w w') (ht : t ≠ e) : w'.ownsRow base t size v n xs :=
  own_keep h fun g hg => by obtain ⟨_, cur, hc⟩ := own_block h hg; exact hk g _ _ _ hc ht
theorem OutAt.keepE {e : TypeId} {B : Nat} {w w' : World} {p : Value × List UInt8} (h : OutAt B w p) (hk : KE e w w') (he : 5 ≠ e) : OutAt B w' p := by
  obtain ⟨A, c, h1, h2⟩ := h
  exact ⟨A, c, h1, own_KE h2 hk he⟩
def iv (l : List Nat) : List Value := l.map fun x => .int .i64 (x : Nat)
def uv (l : List Nat) : List Value := l.map fun x => .int .u64 (x : Nat)
structure HM (B0 base b : Nat) (F bv : Value) (Bd : List Fate) (w0 : World) (a : AS) (S K T : List Nat) (kv sv tv : Value) (W : World) : Prop where
  hb : B0 ≤ base
  net : NetR base b a F W
  rk : W.ownsRow B0 3 1 kv K.length (iv K)
  rs : W.ownsRow B0 39 1 sv S.length (uv S)
  rt : W.ownsRow B0 3 1 tv T.length (iv T)
  rb : W.ownsRow B0 79 4 bv Bd.length (fcells Bd)
  ne : ∀ g, kv.ownBlock = some g → tv.ownBlock ≠ some g
  bel : Below B0 w0 W
section
variable {B0 base b : Nat} {F bv : Value} {Bd : List Fate} {w0 : World} {a a' : AS} {S K T : List Nat} {kv sv tv : Value} {W W' : World}
theorem HM.hs (h : HM B0 base b F bv Bd w0 a S K T kv sv tv W) : base ≤ W.heap.size ∧ B0 ≤ W.heap.size := by have := h.net.hbs; have := h.hb; omega
theorem HM.fr (h : HM B0 base b F bv Bd w0 a S K T kv sv tv W) (hn : NetR base b a' F W') (hf : Fr base W W') : HM B0 base b F bv Bd w0 a' S K T kv sv tv W' :=
  ⟨h.hb, hn, own_fr h.rk hf (by decide) (by decide), own_fr h.rs hf (by decide) (by decide), own_fr h.rt hf (by decide) (by decide), own_fr h.rb hf (by decide) (by decide), h.ne, h.bel.trans (hf.below.mono h.hb)⟩
theorem HM.below (h : HM B0 base b F bv Bd w0 a S K T kv sv tv W) (hb : Below W.heap.size W W') : HM B0 base b F bv Bd w0 a S K T kv sv tv W' :=
  ⟨h.hb, h.net.below hb, own_below h.rk hb, own_below h.rs hb, own_below h.rt hb, own_below h.rb hb, h.ne, h.bel.trans (hb.mono h.hs.2)⟩
theorem grown_other {v u : Value} {e size n base : Nat} {xs : List Value} (h : W.ownsRow base e size u n xs) (hg : W.grownBy W' v.ownBlock) (hne : ∀ g, v.ownBlock = some g → u.ownBlock ≠ some g) : W'.ownsRow base e size u n xs :=
  own_keep h fun g hgu => by
    obtain ⟨_, cur, hc⟩ := own_block h hgu
    exact hg.block g (Array.getElem?_eq_some_iff.1 hc).1 (fun eq => hne g eq.symm hgu)
theorem own_lt {e size n base : Nat} {u : Value} {xs : List Value} (h : W.ownsRow base e size u n xs) {g : Nat} (hg : u.ownBlock = some g) : g < W.heap.size := by
  obtain ⟨_, cur, hc⟩ := own_block h hg
  exact (Array.getElem?_eq_some_iff.1 hc).1
theorem below_grown {w1 w2 : World} {v : Value} {e size n : Nat} {xs : List Value} {B : Nat} (ho : w1.ownsRow B e size v n xs) (hg : w1.grownBy w2 v.ownBlock) (hs : B ≤ w1.heap.size) : Below B w1 w2 :=
  ⟨hg.os, hg.tape, hg.output, hg.size, fun k hk => hg.block k (by omega) (fun eq => by have := (own_block ho eq.symm).1; omega)⟩
theorem HM.appK (h : HM B0 base b F bv Bd w0 a S K T kv sv tv W) (x : Nat) (v' : Value) (hown : W'.ownsRow B0 3 1 v' (K.length + 1) (iv K ++ [.int .i64 (x : Nat)])) (hg : W.grownBy W' kv.ownBlock) (hv : v'.ownBlock = kv.ownBlock ∨ v'.ownBlock = some W.heap.size) :
    HM B0 base b F bv Bd w0 a S (K ++ [x]) T v' sv tv W' :=
  ⟨h.hb, h.net.keepE (KE.grown h.rk hg) (by decide) (by decide) (by decide) (by decide), by simpa [iv] using hown, own_KE h.rs (KE.grown h.rk hg) (by decide), grown_other h.rt hg h.ne, own_KE h.rb (KE.grown h.rk hg) (by decide), fun g hgv ht => by
    rcases hv with e | e
    · exact h.ne g (e ▸ hgv) ht
    · rw [e] at hgv; injection hgv with hgv
      have := own_lt h.rt ht; omega, h.bel.trans (below_grown h.rk hg h.hs.2)⟩
theorem HM.appT (h : HM B0 base b F bv Bd w0 a S K T kv sv tv W) (x : Nat) (v' : Value) (hown : W'.ownsRow B0 3 1 v' (T.length + 1) (iv T ++ [.int .i64 (x : Nat)])) (hg : W.grownBy W' tv.ownBlock) (hv : v'.ownBlock = tv.ownBlock ∨ v'.ownBlock = some W.heap.size) :
    HM B0 base b F bv Bd w0 a S K (T ++ [x]) kv sv v' W' :=
  ⟨h.hb, h.net.keepE (KE.grown h.rt hg) (by decide) (by decide) (by decide) (by decide), grown_other h.rk hg (fun g h1 h2 => h.ne g h2 h1), own_KE h.rs (KE.grown h.rt hg) (by decide), by simpa [iv] using hown, own_KE h.rb (KE.grown h.rt hg) (by decide), fun g hgk ht => by
    rcases hv with e | e
    · exact h.ne g hgk (e ▸ ht)
    · rw [e] at ht; injection ht with ht
      have := own_lt h.rk hgk; omega, h.bel.trans (below_grown h.rt hg h.hs.2)⟩
theorem HM.appS (h : HM B0 base b F bv Bd w0 a S K T kv sv tv W) (x : Nat) (v' : Value) (hown : W'.ownsRow B0 39 1 v' (S.length + 1) (uv S ++ [.int .u64 (x : Nat)])) (hg : W.grownBy W' sv.ownBlock) :
    HM B0 base b F bv Bd w0 a (S ++ [x]) K T kv v' tv W' :=
  ⟨h.hb, h.net.keepE (KE.grown h.rs hg) (by decide) (by decide) (by decide) (by decide), own_KE h.rk (KE.grown h.rs hg) (by decide), by simpa [uv] using hown, own_KE h.rt (KE.grown h.rs hg) (by decide), own_KE h.rb (KE.grown h.rs hg) (by decide), h.ne, h.bel.trans (below_grown h.rs hg h.hs.2)⟩
/-- A number in the row K is written over. -/
theorem HM.setK (h : HM B0 base b F bv Bd w0 a S K T kv sv tv W) (m : Nat) (hm : m < K.length) (x : Nat) :
    ∃ g c, kv = .slice (some ⟨g, 0, none⟩) K.length c ∧ W.cell? ⟨g, m, none⟩ = some (.int .i64 (K[m] : Nat)) ∧ W.frozen? ⟨g, m, none⟩ = false ∧ KE 3 W (W.setCell ⟨g, m, none⟩ (.int .i64 (x : Nat))) ∧
      HM B0 base b F bv Bd w0 a S (K.set m x) T kv sv tv (W.setCell ⟨g, m, none⟩ (.int .i64 (x : Nat))) := by
  obtain ⟨A, c, hkv, _, _⟩ := own_slice h.rk
  have hrk := h.rk
  rw [hkv] at hrk
  obtain ⟨g, rfl⟩ : ∃ g, A = some ⟨g, 0, none⟩ := by
    rcases hrk.2 with ⟨he, h0⟩ | ⟨g', cap', cur', he, _⟩
    · omega
    · injection he with he; exact ⟨g', he⟩
  have hcell : W.cell? ⟨g, m, none⟩ = some (.int .i64 (K[m] : Nat)) := by
    obtain ⟨b', off', he, hc⟩ := (Rd.of_own hrk) m (by simp [iv]; exact hm)
    injection he with he; injection he with e1 e2; subst e1; subst e2
    rw [Nat.zero_add] at hc
    rw [hc]; simp [iv]
  have hgB := (own_block hrk rfl).1
  obtain ⟨_, cur, hblk⟩ := own_block hrk rfl
  have hke : KE 3 W (W.setCell ⟨g, m, none⟩ (.int .i64 (x : Nat))) := fun g' c' t z hc ht => Below.heap_setCell W ⟨g, m, none⟩ _ g' (fun e => by
    have e : g' = g := e
    subst e
    rw [hblk] at hc; injection hc with hc; injection hc with _ hc _; exact ht hc.symm)
  have hst := (hrk.stored m (.int .i64 (x : Nat))).1
  refine ⟨g, c, hkv, hcell, hrk.frozenAt m, hke, h.hb, h.net.keepE hke (by decide) (by decide) (by decide) (by decide), ?_, own_KE h.rs hke (by decide), ?_, own_KE h.rb hke (by decide), h.ne, h.bel.trans ?_⟩
  · rw [hkv, List.length_set]
    have : iv (K.set m x) = (iv K).set m (.int .i64 (x : Nat)) := by simp [iv, List.map_set]
    rw [this]; exact hst
  · exact own_keep h.rt fun g' hg' => Below.heap_setCell W ⟨g, m, none⟩ _ g' (fun e => by
      have e : g' = g := e
      subst e
      exact h.ne g' (by rw [hkv]; rfl) hg')
  · exact (Below.refl _ W).setCell (p := ⟨g, m, none⟩) hgB _
theorem rd_iv {w : World} {B e n c : Nat} {A : Option Addr} {l : List Nat} (h : w.ownsRow B e 1 (.slice A n c) n (iv l)) (m : Nat) (hm : m < l.length) : ∃ g off, A = some ⟨g, off, none⟩ ∧ w.cell? ⟨g, off + m, none⟩ = some (.int .i64 (l[m] : Nat)) := by
  obtain ⟨g, off, he, hc⟩ := (Rd.of_own h) m (by simp [iv]; exact hm)
  exact ⟨g, off, he, by rw [hc]; simp [iv]⟩
theorem rd_uv {w : World} {B e n c : Nat} {A : Option Addr} {l : List Nat} (h : w.ownsRow B e 1 (.slice A n c) n (uv l)) (m : Nat) (hm : m < l.length) : ∃ g off, A = some ⟨g, off, none⟩ ∧ w.cell? ⟨g, off + m, none⟩ = some (.int .u64 (l[m] : Nat)) := by
  obtain ⟨g, off, he, hc⟩ := (Rd.of_own h) m (by simp [uv]; exact hm)
  exact ⟨g, off, he, by rw [hc]; simp [uv]⟩
end
theorem info3n : (Try.prog.info? 3).map (fun i => (i.zero, i.size, i.bytes)) = some (some (.int .i64 0), 1, 8) := by kernel_rfl
theorem info39n : (Try.prog.info? 39).map (fun i => (i.zero, i.size, i.bytes)) = some (some (.int .u64 0), 1, 8) := by kernel_rfl
end Go.Proofs.Ytnbnghihmophpaa
