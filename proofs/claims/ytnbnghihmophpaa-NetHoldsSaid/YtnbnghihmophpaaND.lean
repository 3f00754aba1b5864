/- The net: what comes is taken (side 1): words. -/
import Derived.Test.YtnbnghihmophpaaNC
namespace Go.Proofs.Ytnbnghihmophpaa
open Go.RowKit
set_option maxRecDepth 20000
set_option maxHeartbeats 4000000
set_option linter.unusedVariables false
set_option linter.unusedSimpArgs false

/-- Every block of cells that is no row of rows of bytes stays. -/
def KT (w w' : World) : Prop := ∀ (g : Nat) (c : Array Value) (t : TypeId) (z : Nat × Nat), w.heap[g]? = some (Obj.cells c t z) → t ≠ 23 → w'.heap[g]? = w.heap[g]?
theorem NetAt.keepT {base : Nat} {w w' : World} {b : Nat} {s : NS} {F v0 v1 : Value} (h : NetAt base w b s F v0 v1) (hk : KT w w') : NetAt base w' b s F v0 v1 := by
  have ho : ∀ {v : Value} {n : Nat} {xs : List Value} {e : TypeId} {z : Nat}, w.ownsRow base e z v n xs → e ≠ 23 → w'.ownsRow base e z v n xs := by
    intro v n xs e z ho he
    refine own_keep ho fun g hg => ?_
    obtain ⟨_, cur, hc⟩ := own_block ho hg
    exact hk g _ _ _ hc he
  have hd : ∀ d, DatAt w d → DatAt w' d := fun d ⟨A, c, h1, h2, h3⟩ => ⟨A, c, h1, h2, h3.keep fun g cur hc => hk g _ _ _ hc (by decide)⟩
  exact ⟨h.hb, (hk b _ _ _ h.blk (by decide)).trans h.blk, ho h.ft (by decide), ⟨ho h.r0.1 (by decide), fun d hdd => hd d (h.r0.2 d hdd)⟩, ⟨ho h.r1.1 (by decide), fun d hdd => hd d (h.r1.2 d hdd)⟩, h.ne⟩
theorem KT.of_below {w w' : World} (h : Below w.heap.size w w') : KT w w' := fun g c t z hc _ => h.block g (Array.getElem?_eq_some_iff.1 hc).1
theorem KT.grown {w w' : World} {v : Value} {base n size : Nat} {xs : List Value} (ho : w.ownsRow base 23 size v n xs) (hg : w.grownBy w' v.ownBlock) : KT w w' := fun g c t z hc ht => hg.block g (Array.getElem?_eq_some_iff.1 hc).1 (fun e => by
  obtain ⟨_, cur, hc'⟩ := own_block ho e.symm
  rw [hc'] at hc; injection hc with hc; injection hc with _ hc _; exact ht hc.symm)
theorem Fr.above {base : Nat} {w w1 w2 : World} {row : Option Nat} (h : Fr base w w1) (hb : base ≤ w.heap.size) (hg : w1.grownBy w2 row) (hr : ∀ g, row = some g → w.heap.size ≤ g) : Fr base w w2 :=
  ⟨hg.os.trans h.os, hg.tape.trans h.tape, hg.output.trans h.output, Nat.le_trans h.size hg.size, fun k hk => (hg.block k (by have := h.size; omega) (fun e => by have := hr k e.symm; omega)).trans (h.low k hk),
    fun k c t z hc h1 h2 => by
      have hl := (Array.getElem?_eq_some_iff.1 hc).1
      exact (hg.block k (by have := h.size; omega) (fun e => by have := hr k e.symm; omega)).trans (h.typ k c t z hc h1 h2)⟩

def openB (bs : List UInt8) : Option (List UInt8) := if bs.drop (bs.length - 4) == be4 (Crc.sum (bs.take (bs.length - 4))) then some (bs.take (bs.length - 4)) else none
theorem open_some (A : Option Addr) (bs body : List UInt8) (cap : Nat) (w : World) (h4 : 4 ≤ bs.length) (hm : bs.length ≤ 1000000) (hc : bs.length ≤ cap) (hr : Rd w A (bv bs)) (ho : openB bs = some body) :
    Calls Try.prog 26 #[.slice A bs.length cap] w fun e w' => ∃ A' c', e = .returned (.tuple #[.slice A' body.length c', .int .i64 0]) ∧ w'.ownsRow w.heap.size 5 1 (.slice A' body.length c') body.length (bv body) ∧ Below w.heap.size w w' := by
  unfold openB at ho
  split at ho
  · rename_i hk
    injection ho with ho
    have hcat : bs = body ++ bs.drop (bs.length - 4) := by rw [← ho]; exact (List.take_append_drop _ _).symm
    have hl : body.length + 4 = bs.length := by rw [← ho]; simp; omega
    rw [ho] at hk
    have := open_long A body (bs.drop (bs.length - 4)) cap w (by simp; omega) (by omega) (by omega) (by rw [← hcat]; exact hr) true hk
    rw [hl] at this
    refine this.mono ?_
    rintro e w' ⟨h1, h2, _⟩
    obtain ⟨A', c', he, hown⟩ := h2 rfl
    exact ⟨A', c', he, hown, h1⟩
  · cases ho
theorem open_none (A : Option Addr) (bs : List UInt8) (cap : Nat) (w : World) (h4 : 4 ≤ bs.length) (hm : bs.length ≤ 1000000) (hc : bs.length ≤ cap) (hr : Rd w A (bv bs)) (ho : openB bs = none) :
    Calls Try.prog 26 #[.slice A bs.length cap] w fun e w' => e = .returned (.tuple #[.slice none 0 0, .int .i64 140]) ∧ Below w.heap.size w w' := by
  unfold openB at ho
  split at ho
  · cases ho
  · rename_i hk
    have hl : (bs.take (bs.length - 4)).length + 4 = bs.length := by simp; omega
    have := open_long A (bs.take (bs.length - 4)) (bs.drop (bs.length - 4)) cap w (by simp; omega) (by simp; omega) (by omega) (by rw [List.take_append_drop]; exact hr) false (by simpa using hk)
    rw [hl] at this
    refine this.mono ?_
    rintro e w' ⟨h1, _, h3⟩
    exact ⟨h3 rfl, h1⟩

def tkT (t : Nat) (ds : List Dg) : Nat := ds.foldl (fun t d => if (openB d.b).isSome then sat t else t) t
def tkB (t : Nat) (ds : List Dg) : Nat := ds.foldl (fun t d => if (openB d.b).isSome then t else sat t) t
theorem tkT_snoc (t : Nat) (ds : List Dg) (d : Dg) : tkT t (ds ++ [d]) = if (openB d.b).isSome then sat (tkT t ds) else tkT t ds := by simp [tkT]
theorem tkB_snoc (t : Nat) (ds : List Dg) (d : Dg) : tkB t (ds ++ [d]) = if (openB d.b).isSome then tkB t ds else sat (tkB t ds) := by simp [tkB]
theorem sat_le {x : Nat} (h : x ≤ 18446744073709551615) : sat x ≤ 18446744073709551615 := by unfold sat; split <;> omega
theorem tkT_le (t : Nat) (ds : List Dg) (h : t ≤ 18446744073709551615) : tkT t ds ≤ 18446744073709551615 := by
  induction ds generalizing t with
  | nil => exact h
  | cons d ds ih => simp only [tkT, List.foldl_cons]; split; exact ih _ (sat_le h); exact ih _ h
theorem tkB_le (t : Nat) (ds : List Dg) (h : t ≤ 18446744073709551615) : tkB t ds ≤ 18446744073709551615 := by
  induction ds generalizing t with
  | nil => exact h
  | cons d ds ih => simp only [tkB, List.foldl_cons]; split; exact ih _ h; exact ih _ (sat_le h)
def OutAt (B : Nat) (w : World) (p : Value × List UInt8) : Prop := ∃ A c, p.1 = .slice A p.2.length c ∧ w.ownsRow B 5 1 p.1 p.2.length (bv p.2)
theorem OutAt.keep {B : Nat} {w w' : World} {p : Value × List UInt8} (h : OutAt B w p) (hk : KT w w') : OutAt B w' p := by
  obtain ⟨A, c, h1, h2⟩ := h
  exact ⟨A, c, h1, own_keep h2 fun g hg => by obtain ⟨_, cur, hc⟩ := own_block h2 hg; exact hk g _ _ _ hc (by decide)⟩
theorem info23 : (Try.prog.info? 23).map (fun i => (i.zero, i.size, i.bytes)) = some (some (.slice none 0 0), 1, 24) := by kernel_rfl

theorem take_mid {base : Nat} {W0 W8 : World} {b : Nat} {s : NS} {F v0 : Value} {A A8 : Option Addr} {n n1 c8 : Nat} (h : NetAt base W0 b s F v0 (.slice A n n1)) (hs : base ≤ W0.heap.size) (k : Nat) (hk : k ≤ n) (hn : s.u1.length = n)
    (hb8 : Below W0.heap.size W0 W8) (hown : W8.ownsRow W0.heap.size 141 2 (.slice A8 (n - k) c8) (n - k) ((dcells s.u1).drop (2 * k))) :
    W8.cell? ⟨b, 4, none⟩ = some (.slice A n n1) ∧ W8.frozen? ⟨b, 4, none⟩ = false ∧ Hid (NetAt base (W8.setCell ⟨b, 4, none⟩ (.slice A8 (n - k) c8)) b { s with u1 := s.u1.drop k } F v0 (.slice A8 (n - k) c8)) ∧
      Hid (Fr base W0 (W8.setCell ⟨b, 4, none⟩ (.slice A8 (n - k) c8))) ∧ Hid ((W8.setCell ⟨b, 4, none⟩ (.slice A8 (n - k) c8)).ownsRow base 141 2 (.slice A n n1) n (dcells s.u1)) ∧
      Hid (∀ d ∈ s.u1, DatAt (W8.setCell ⟨b, 4, none⟩ (.slice A8 (n - k) c8)) d) := by
  have hown' : W8.ownsRow base 141 2 (.slice A8 (n - k) c8) (s.u1.drop k).length (dcells (s.u1.drop k)) := by
    rw [← dcells_drop, List.length_drop, hn]; exact own_mono hown hs
  obtain ⟨r1, r2, r3, r4⟩ := h.row1 hs (s.u1.drop k) hown' ⟨hb8.os, hb8.tape, hb8.output, hb8.size, fun i hi _ => hb8.block i hi⟩ (fun g hg => .inr (own_block hown hg).1) (fun d hd => h.r1.2 d (List.mem_of_mem_drop hd))
  refine ⟨r3, r4, r1, r2, ?_, fun d hd => (h.r1.2 d hd).fr r2⟩
  have h8 := own_below h.r1.1 hb8
  rw [hn] at h8
  refine own_keep h8 (fun g hg => ?_)
  obtain ⟨_, cur, hc⟩ := own_block h8 hg
  refine Below.heap_setCell W8 ⟨b, 4, none⟩ _ g (fun e => ?_)
  have e : g = b := e
  subst e
  have hb := h.blk.below hb8 h.blk.lt
  unfold Blk at hb; rw [hb] at hc; injection hc with hc; injection hc with _ hc _; exact absurd hc (by decide)
theorem rd_drop2 {w : World} {g off k : Nat} {xs : List Value} (h : Rd w (some ⟨g, off, none⟩) xs) : Rd w (some ⟨g, off + k * 2, none⟩) (xs.drop (2 * k)) := by
  have h1 := h.drop (2 * k)
  have h2 : ((⟨g, off, none⟩ : Addr).add (2 * k)) = ⟨g, off + k * 2, none⟩ := by
    rw [Nat.mul_comm k 2]; unfold Addr.add; split <;> simp_all
  rw [Option.map_some, h2] at h1
  exact h1

def K134 (w w' : World) : Prop := ∀ (g : Nat) (c : Array Value) (t : TypeId) (z : Nat × Nat), w.heap[g]? = some (Obj.cells c t z) → t ≠ 134 → w'.heap[g]? = w.heap[g]?
theorem K134.of_below {w w' : World} (h : Below w.heap.size w w') : K134 w w' := fun g c t z hc _ => h.block g (Array.getElem?_eq_some_iff.1 hc).1
theorem K134.upd {w w' : World} {b : Nat} {cs : Array Value} (hb : Blk w b 134 cs) (hg : w.grownBy w' (some b)) : K134 w w' := fun g c t z hc ht => hg.block g (Array.getElem?_eq_some_iff.1 hc).1 (fun e => by
  injection e with e; subst e; unfold Blk at hb; rw [hb] at hc; injection hc with hc; injection hc with _ hc _; exact ht hc.symm)
theorem own_134 {w w' : World} {base n : Nat} {e : TypeId} {size : Nat} {v : Value} {xs : List Value} (h : w.ownsRow base e size v n xs) (hk : K134 w w') (he : e ≠ 134) : w'.ownsRow base e size v n xs :=
  own_keep h fun g hg => by obtain ⟨_, cur, hc⟩ := own_block h hg; exact hk g _ _ _ hc he
theorem OutAt.keep134 {B : Nat} {w w' : World} {p : Value × List UInt8} (h : OutAt B w p) (hk : K134 w w') : OutAt B w' p := by
  obtain ⟨A, c, h1, h2⟩ := h
  exact ⟨A, c, h1, own_134 h2 hk (by decide)⟩
structure Bag (B base n n1 : Nat) (A : Option Addr) (ds : List Dg) (os : List (Value × List UInt8)) (Ao : Option Addr) (c : Nat) (w : World) : Prop where
  row : w.ownsRow B 23 1 (.slice Ao os.length c) os.length (os.map (·.1))
  outs : ∀ p ∈ os, OutAt B w p
  old : w.ownsRow base 141 2 (.slice A n n1) n (dcells ds)
  dat : ∀ d ∈ ds, DatAt w d
theorem Bag.keep {B base n n1 : Nat} {A : Option Addr} {ds : List Dg} {os : List (Value × List UInt8)} {Ao : Option Addr} {c : Nat} {w w' : World} (h : Bag B base n n1 A ds os Ao c w) (hk : K134 w w') : Bag B base n n1 A ds os Ao c w' :=
  ⟨own_134 h.row hk (by decide), fun p hp => (h.outs p hp).keep134 hk, own_134 h.old hk (by decide), fun d hd => by
    obtain ⟨A', c', h1, h2, h3⟩ := h.dat d hd
    exact ⟨A', c', h1, h2, h3.keep fun g cur hc => hk g _ _ _ hc (by decide)⟩⟩
theorem Bag.more {B base n n1 : Nat} {A : Option Addr} {ds : List Dg} {os : List (Value × List UInt8)} {Ao : Option Addr} {c : Nat} {w w' : World} (h : Bag B base n n1 A ds os Ao c w) {v : Value} {x : Value} {body : List UInt8}
    (hown : w'.ownsRow B 23 1 v (os.length + 1) (os.map (·.1) ++ [x])) (hg : w.grownBy w' (Value.slice Ao os.length c).ownBlock) (hx : OutAt B w (x, body)) :
    ∃ A' c', v = .slice A' (os ++ [(x, body)]).length c' ∧ Bag B base n n1 A ds (os ++ [(x, body)]) A' c' w' ∧ KT w w' := by
  obtain ⟨A', c', rfl, _, _⟩ := own_slice hown
  have hk := KT.grown h.row hg
  refine ⟨A', c', by simp, ⟨by simpa using hown, fun p hp => ?_, own_keep h.old fun g hgv => by obtain ⟨_, cur, hc⟩ := own_block h.old hgv; exact hk g _ _ _ hc (by decide), fun d hd => ?_⟩, hk⟩
  · rcases List.mem_append.1 hp with hp | hp
    · exact (h.outs p hp).keep hk
    · rw [List.mem_singleton] at hp; subst hp; exact hx.keep hk
  · obtain ⟨A', c', h1, h2, h3⟩ := h.dat d hd
    exact ⟨A', c', h1, h2, h3.keep fun g cur hc => hk g _ _ _ hc (by decide)⟩
end Go.Proofs.Ytnbnghihmophpaa
