/- The net in memory: what stays by a block's type; datagrams; the net's own block. -/
import Derived.Test.YtnbnghihmophpaaC6
import Derived.Laws.LoneSync
namespace Go.Proofs.Ytnbnghihmophpaa
open Go.RowKit
set_option maxRecDepth 20000
set_option maxHeartbeats 1000000
set_option linter.unusedVariables false
set_option linter.unusedSimpArgs false

/-! ### What a call of the net keeps: all below 'base'; every block that is no net and no row of datagrams -/
structure Fr (base : Nat) (w w' : World) : Prop where
  os : w'.os = w.os
  tape : w'.tape = w.tape
  output : w'.output = w.output
  size : w.heap.size ≤ w'.heap.size
  low : ∀ k : Nat, k < base → w'.heap[k]? = w.heap[k]?
  typ : ∀ (k : Nat) (c : Array Value) (t : TypeId) (z : Nat × Nat), w.heap[k]? = some (Obj.cells c t z) → t ≠ 134 → t ≠ 141 → w'.heap[k]? = w.heap[k]?
section
variable {base : Nat} {w w1 w2 w' : World}
theorem Fr.refl (base : Nat) (w : World) : Fr base w w := ⟨rfl, rfl, rfl, Nat.le_refl _, fun _ _ => rfl, fun _ _ _ _ _ _ _ => rfl⟩
theorem Fr.trans (h : Fr base w w1) (k : Fr base w1 w2) : Fr base w w2 :=
  ⟨k.os.trans h.os, k.tape.trans h.tape, k.output.trans h.output, Nat.le_trans h.size k.size, fun i hi => (k.low i hi).trans (h.low i hi),
    fun i c t z hc h1 h2 => (k.typ i c t z ((h.typ i c t z hc h1 h2).trans hc) h1 h2).trans (h.typ i c t z hc h1 h2)⟩
theorem Fr.of_below (hs : base ≤ w.heap.size) (h : Below w.heap.size w w') : Fr base w w' :=
  ⟨h.os, h.tape, h.output, h.size, fun k hk => h.block k (by omega), fun k c t z hc _ _ => h.block k (Array.getElem?_eq_some_iff.1 hc).1⟩
theorem Fr.below (h : Fr base w w') : Below base w w' := ⟨h.os, h.tape, h.output, h.size, h.low⟩
theorem Fr.alloc (hs : base ≤ w.heap.size) (o : Obj) : Fr base w (w.alloc o) := Fr.of_below hs ((Below.refl _ w).alloc (Nat.le_refl _) _)
theorem Fr.drewN (n : Nat) : Fr base w (w.drewN n) := ⟨rfl, rfl, rfl, Nat.le_refl _, fun _ _ => rfl, fun _ _ _ _ _ _ _ => rfl⟩
theorem Fr.set {g : Nat} {t : TypeId} {cs : Array Value} (hb : base ≤ g) (hg : Blk w g t cs) (ht : t = 134 ∨ t = 141) (i : Nat) (u : Value) : Fr base w (w.setCell ⟨g, i, none⟩ u) :=
  ⟨rfl, rfl, rfl, by simp [World.setCell], fun k hk => Below.heap_setCell w ⟨g, i, none⟩ u k (by show k ≠ g; omega), fun k c t' z hc h1 h2 => by
    by_cases hk : k = g
    · subst hk
      unfold Blk at hg
      rw [hg] at hc; injection hc with hc; injection hc with _ hc _
      subst hc; rcases ht with rfl | rfl
      · exact absurd rfl h1
      · exact absurd rfl h2
    · exact Below.heap_setCell w ⟨g, i, none⟩ u k hk⟩
theorem Fr.grown {row : Option Nat} (hg : w.grownBy w' row) (hr : ∀ g : Nat, row = some g → base ≤ g ∧ ∃ c z, w.heap[g]? = some (Obj.cells c 141 z)) (hs : base ≤ w.heap.size) : Fr base w w' :=
  ⟨hg.os, hg.tape, hg.output, hg.size, fun k hk => hg.block k (by omega) (fun e => by have := (hr k e.symm).1; omega), fun k c t z hc h1 h2 => hg.block k (Array.getElem?_eq_some_iff.1 hc).1 (fun e => by
    obtain ⟨c', z', h'⟩ := (hr k e.symm).2
    rw [h'] at hc; injection hc with hc; injection hc with _ hc _
    exact h2 hc.symm)⟩
end

theorem own_keep {w w1 : World} {base n : Nat} {e : TypeId} {size : Nat} {v : Value} {xs : List Value} (h : w.ownsRow base e size v n xs) (hk : ∀ g : Nat, v.ownBlock = some g → w1.heap[g]? = w.heap[g]?) : w1.ownsRow base e size v n xs := by
  refine ⟨h.1, ?_⟩
  rcases h.2 with h2 | ⟨g, cap, cur, rfl, hg, hc, r⟩
  · exact .inl h2
  · exact .inr ⟨g, cap, cur, rfl, hg, (hk g rfl).trans hc, r⟩
theorem own_block {w : World} {base n : Nat} {e : TypeId} {size : Nat} {v : Value} {xs : List Value} (h : w.ownsRow base e size v n xs) {g : Nat} (hg : v.ownBlock = some g) : base ≤ g ∧ ∃ cur, w.heap[g]? = some (Obj.cells cur e (0, 0)) := by
  rcases h.2 with ⟨rfl, _⟩ | ⟨g', cap, cur, rfl, hb, hc, _⟩
  · cases hg
  · cases hg; exact ⟨hb, cur, hc⟩
theorem own_fr {w w1 : World} {base base' n : Nat} {e : TypeId} {size : Nat} {v : Value} {xs : List Value} (h : w.ownsRow base' e size v n xs) (hf : Fr base w w1) (h1 : e ≠ 134) (h2 : e ≠ 141) : w1.ownsRow base' e size v n xs :=
  own_keep h fun g hg => by obtain ⟨_, cur, hc⟩ := own_block h hg; exact hf.typ g _ _ _ hc h1 h2

/-! ### Bytes in a block of bytes -/
def R5 (w : World) (A : Option Addr) (bs : List UInt8) : Prop :=
  ∃ g off cur, A = some ⟨g, off, none⟩ ∧ w.heap[g]? = some (Obj.cells cur 5 (0, 0)) ∧ ∀ j (h : j < bs.length), cur[off + j]? = some (.int .u8 (bs[j].toNat : Nat))
theorem R5.rd {w : World} {A : Option Addr} {bs : List UInt8} (h : R5 w A bs) : Rd w A (bv bs) := by
  obtain ⟨g, off, cur, rfl, hb, hc⟩ := h
  intro j hj
  have hj' : j < bs.length := by simpa using hj
  exact ⟨g, off, rfl, by rw [Blk.cell (t := 5) (cs := cur) hb, hc j hj']; simp [bv]⟩
theorem R5.keep {w w' : World} {A : Option Addr} {bs : List UInt8} (h : R5 w A bs) (hk : ∀ (g : Nat) (cur : Array Value), w.heap[g]? = some (Obj.cells cur 5 (0, 0)) → w'.heap[g]? = w.heap[g]?) : R5 w' A bs := by
  obtain ⟨g, off, cur, rfl, hb, hc⟩ := h
  exact ⟨g, off, cur, rfl, (hk g cur hb).trans hb, hc⟩
theorem R5.fr {w w' : World} {A : Option Addr} {bs : List UInt8} {base : Nat} (h : R5 w A bs) (hf : Fr base w w') : R5 w' A bs :=
  h.keep fun g cur hc => hf.typ g _ _ _ hc (by decide) (by decide)
theorem R5.of_own {w : World} {base : Nat} {A : Option Addr} {n c : Nat} {bs : List UInt8} (h : w.ownsRow base 5 1 (.slice A n c) n (bv bs)) (hp : 0 < bs.length) : R5 w A bs ∧ n = bs.length := by
  have hl := h.1
  simp at hl
  rcases h.2 with ⟨he, h0⟩ | ⟨g, cap, cur, he, _, hg, _, _, _, ht⟩
  · omega
  · injection he with he _ _
    subst he
    refine ⟨⟨g, 0, cur, rfl, hg, fun j hj => ?_⟩, by omega⟩
    rw [Nat.zero_add]
    have h1 : (cur.toList.take (n * 1))[j]? = (bv bs)[j]? := by rw [ht]
    rw [List.getElem?_take, if_pos (by omega)] at h1
    rw [← Array.getElem?_toList, h1]
    simp [bv, List.getElem?_eq_getElem hj]

/-! ### Datagrams under way -/
structure Dg where
  due : Nat
  at_ : Value
  b : List UInt8
def dcells (ds : List Dg) : List Value := ds.flatMap fun d => [.int .u64 d.due, d.at_]
def DatAt (w : World) (d : Dg) : Prop := ∃ A c, d.at_ = .slice A d.b.length c ∧ d.b.length ≤ c ∧ R5 w A d.b
theorem dcells_length (ds : List Dg) : (dcells ds).length = ds.length * 2 := by
  induction ds with
  | nil => rfl
  | cons d ds ih => simp [dcells] at ih ⊢; omega
theorem dcells_append (xs ys : List Dg) : dcells (xs ++ ys) = dcells xs ++ dcells ys := by simp [dcells]
theorem dcells_take (n : Nat) (ds : List Dg) : (dcells ds).take (2 * n) = dcells (ds.take n) := by
  induction ds generalizing n with
  | nil => simp [dcells]
  | cons d ds ih =>
    cases n with
    | zero => simp [dcells]
    | succ n => have := ih n; simp [dcells, Nat.mul_succ] at this ⊢; exact this
theorem dcells_drop (n : Nat) (ds : List Dg) : (dcells ds).drop (2 * n) = dcells (ds.drop n) := by
  induction ds generalizing n with
  | nil => simp [dcells]
  | cons d ds ih =>
    cases n with
    | zero => simp [dcells]
    | succ n => have := ih n; simp [dcells, Nat.mul_succ] at this ⊢; exact this
theorem dcells_get {ds : List Dg} (j : Nat) (h : j < ds.length) : (dcells ds)[2 * j]? = some (.int .u64 ds[j].due) ∧ (dcells ds)[2 * j + 1]? = some ds[j].at_ := by
  induction ds generalizing j with
  | nil => simp at h
  | cons d ds ih =>
    cases j with
    | zero => simp [dcells]
    | succ j => have := ih j (by simpa using h); simp [dcells, Nat.mul_succ] at this ⊢; exact this
theorem dcells_one (ds : List Dg) (h : ∀ d ∈ ds, ∃ A n c, d.at_ = .slice A n c) : ∀ v ∈ dcells ds, v.oneCell' = true := by
  intro v hv
  simp only [dcells, List.mem_flatMap, List.mem_cons, List.not_mem_nil, or_false] at hv
  obtain ⟨d, hd, rfl | rfl⟩ := hv
  · rfl
  · obtain ⟨A, n, c, e⟩ := h d hd
    rw [e]; rfl
theorem DatAt.fr {w w' : World} {d : Dg} {base : Nat} (h : DatAt w d) (hf : Fr base w w') : DatAt w' d := by
  obtain ⟨A, c, h1, h2, h3⟩ := h
  exact ⟨A, c, h1, h2, h3.fr hf⟩
def Under (base : Nat) (w : World) (v : Value) (ds : List Dg) : Prop := w.ownsRow base 141 2 v ds.length (dcells ds) ∧ ∀ d ∈ ds, DatAt w d
theorem Under.keep {base base' : Nat} {w w' : World} {v : Value} {ds : List Dg} (h : Under base w v ds) (hf : Fr base' w w') (hk : ∀ g : Nat, v.ownBlock = some g → w'.heap[g]? = w.heap[g]?) : Under base w' v ds :=
  ⟨own_keep h.1 hk, fun d hd => (h.2 d hd).fr hf⟩

/-! ### The net -/
structure Fate where
  kind : Int
  by_ : Nat
  at_ : Int
  xor : Nat
def Fate.ok (f : Fate) : Prop := (-9223372036854775808 ≤ f.kind ∧ f.kind ≤ 9223372036854775807) ∧ f.by_ < 65536 ∧ (-9223372036854775808 ≤ f.at_ ∧ f.at_ ≤ 9223372036854775807) ∧ f.xor < 256
def Fate.cells (f : Fate) : List Value := [.int .i64 f.kind, .int .u16 f.by_, .int .i64 f.at_, .int .u8 f.xor]
def fcells (fs : List Fate) : List Value := fs.flatMap Fate.cells
theorem fcells_length (fs : List Fate) : (fcells fs).length = fs.length * 4 := by
  induction fs with
  | nil => rfl
  | cons d ds ih => simp [fcells, Fate.cells] at ih ⊢; omega
theorem fcells_get {fs : List Fate} (j : Nat) (h : j < fs.length) (i : Nat) (hi : i < 4) : (fcells fs)[4 * j + i]? = (fs[j].cells)[i]? := by
  induction fs generalizing j with
  | nil => simp at h
  | cons d ds ih =>
    cases j with
    | zero => simp only [fcells, List.flatMap_cons, Nat.mul_zero, Nat.zero_add]; rw [List.getElem?_append_left (by simpa [Fate.cells] using hi)]; rfl
    | succ j =>
      have := ih j (by simpa using h)
      simp only [fcells, List.flatMap_cons] at this ⊢
      rw [List.getElem?_append_right (by simp [Fate.cells]; omega)]
      simp only [List.getElem_cons_succ]
      rw [← this]; congr 1; simp [Fate.cells]; omega

structure NS where
  fts : List Fate
  next : Nat
  now : Nat
  u0 : List Dg
  u1 : List Dg
  sent : Nat
  lost : Nat
  taken : Nat
  bad : Nat
def netCells (s : NS) (F v0 v1 : Value) : Array Value :=
  #[F, .int .i64 s.next, .int .u64 s.now, v0, v1, .int .u64 s.sent, .int .u64 s.lost, .int .u64 s.taken, .int .u64 s.bad]
structure NetAt (base : Nat) (w : World) (b : Nat) (s : NS) (F v0 v1 : Value) : Prop where
  hb : base ≤ b
  blk : Blk w b 134 (netCells s F v0 v1)
  ft : w.ownsRow base 79 4 F s.fts.length (fcells s.fts)
  r0 : Under base w v0 s.u0
  r1 : Under base w v1 s.u1
  ne : ∀ g, v0.ownBlock = some g → v1.ownBlock ≠ some g
end Go.Proofs.Ytnbnghihmophpaa
