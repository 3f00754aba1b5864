/- The net: the chapter's examples: what is taken. -/
import Derived.Test.YtnbnghihmophpaaNI
import Derived.Test.YtnbnghihmophpaaNB
import Derived.Laws.IdiomStrings
namespace Go.Proofs.Ytnbnghihmophpaa
open Go.RowKit
set_option maxRecDepth 20000
set_option maxHeartbeats 4000000
set_option linter.unusedVariables false
set_option linter.unusedSimpArgs false

structure TW (t : Nat) (l : List (Nat × List UInt8)) (tk bd : Nat) (s : NS) : Prop where
  nw : s.now = t
  u1 : er s.u1 = l
  se : s.sent = 4
  lo : s.lost = 1
  ta : s.taken = tk
  ba : s.bad = bd
theorem SW.tw {s : NS} (h : SW 4 s) : TW 0 (lW 4) 0 0 s := ⟨h.nw, h.u1, h.se, h.lo.trans rfl, h.ta, h.ba⟩
def TakeW (base b : Nat) (F v0 : Value) (t : Nat) (l' : List (Nat × List UInt8)) (tk' bd' : Nat) (xs : List (List UInt8)) (w : World) (e : Ending) (w' : World) : Prop :=
  ∃ (os : List (Value × List UInt8)) (s' : NS) (v1' : Value) (A : Option Addr) (c : Nat), e = .returned (.slice A os.length c) ∧
      w'.ownsRow w.heap.size 23 1 (.slice A os.length c) os.length (os.map (·.1)) ∧ (∀ p ∈ os, OutAt w.heap.size w' p) ∧ os.map (·.2) = xs ∧ NetAt base w' b s' F v0 v1' ∧ TW t l' tk' bd' s' ∧ Fr base w w'
theorem take_works (base b : Nat) (s : NS) (F v0 v1 : Value) (w : World) (h : NetAt base w b s F v0 v1) (t : Nat) (l l' : List (Nat × List UInt8)) (tk bd tk' bd' : Nat) (hs : TW t l tk bd s) (xs : List (List UInt8))
    (hl : l.length ≤ 4) (hlb : ∀ p ∈ l, p.2.length = 5) (ht : t ≤ 5) (htk : tk ≤ 5) (hbd : bd ≤ 5)
    (h1 : l.dropWhile (fun y => y.1 ≤ t) = l') (h2 : tkE tk (l.takeWhile (fun y => y.1 ≤ t)) = tk') (h3 : bdE bd (l.takeWhile (fun y => y.1 ≤ t)) = bd') (h4 : (l.takeWhile (fun y => y.1 ≤ t)).filterMap (fun p => openB p.2) = xs) :
    Calls Try.prog 54 #[.pointer (some ⟨b, 0, none⟩), .int .i64 1] w (TakeW base b F v0 t l' tk' bd' xs w) := by
  have hlen : s.u1.length ≤ 4 := by have := congrArg List.length hs.u1; simp only [er, List.length_map] at this; omega
  refine (take1_any base b s F v0 v1 w h (by omega) (by rw [hs.nw]; omega) (by rw [hs.ta]; omega) (by rw [hs.ba]; omega) (fun d hd => ?_)).mono ?_
  · have := hlb (d.due, d.b) (by rw [← hs.u1]; exact List.mem_map.2 ⟨d, hd, rfl⟩)
    simp only at this; omega
  · rintro e w' ⟨os, v1', A, c, he, ho, hoa, hm, hn, hf⟩
    refine ⟨os, _, v1', A, c, he, ho, hoa, ?_, hn, ⟨hs.nw, ?_, hs.se, hs.lo, ?_, ?_⟩, hf⟩
    · rw [hm, come_open, er_come, hs.u1, hs.nw]; exact h4
    · show er (left s) = _
      rw [er_left, hs.u1, hs.nw]; exact h1
    · show tkT _ _ = _
      rw [tkT_er, er_come, hs.u1, hs.nw, hs.ta]; exact h2
    · show tkB _ _ = _
      rw [tkB_er, er_come, hs.u1, hs.nw, hs.ba]; exact h3
theorem tick_works (base b : Nat) (s : NS) (F v0 v1 : Value) (w : World) (h : NetAt base w b s F v0 v1) (t : Nat) (l : List (Nat × List UInt8)) (tk bd : Nat) (hs : TW t l tk bd s) (ht : t ≤ 5) :
    Calls Try.prog 52 #[.pointer (some ⟨b, 0, none⟩)] w fun e w' => (∃ v, e = .returned v) ∧ ∃ s', NetAt base w' b s' F v0 v1 ∧ TW (t + 1) l tk bd s' ∧ Fr base w w' := by
  refine (tick_any base b s F v0 v1 w h (by rw [hs.nw]; omega)).mono ?_
  rintro e w' ⟨he, hn, hf⟩
  refine ⟨⟨_, he⟩, _, hn, ⟨?_, hs.u1, hs.se, hs.lo, hs.ta, hs.ba⟩, hf⟩
  show sat s.now = t + 1
  rw [hs.nw]; unfold sat; rw [if_pos (by omega)]
theorem counts_works (base b : Nat) (s : NS) (F v0 v1 : Value) (w : World) (h : NetAt base w b s F v0 v1) (t : Nat) (l : List (Nat × List UInt8)) (tk bd : Nat) (hs : TW t l tk bd s) :
    Calls Try.prog 61 #[.pointer (some ⟨b, 0, none⟩)] w fun e w' => e = .returned (.agg #[.int .u64 4, .int .u64 1, .int .u64 tk, .int .u64 bd]) ∧ Below w.heap.size w w' := by
  have := counts_any base b s F v0 v1 w h
  rw [hs.se, hs.lo, hs.ta, hs.ba] at this
  exact this
theorem own_fr23 {w w1 : World} {base base' n : Nat} {v : Value} {xs : List Value} (h : w.ownsRow base' 23 1 v n xs) (hf : Fr base w w1) : w1.ownsRow base' 23 1 v n xs := own_fr h hf (by decide) (by decide)
theorem OutAt.fr {B base : Nat} {w w' : World} {p : Value × List UInt8} (h : OutAt B w p) (hf : Fr base w w') : OutAt B w' p := by
  obtain ⟨A, c, h1, h2⟩ := h
  exact ⟨A, c, h1, own_fr h2 hf (by decide) (by decide)⟩
end Go.Proofs.Ytnbnghihmophpaa
