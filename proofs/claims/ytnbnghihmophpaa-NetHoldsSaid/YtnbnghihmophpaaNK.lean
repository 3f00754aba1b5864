/- The net: the chapter's examples. -/
import Derived.Test.YtnbnghihmophpaaNJ
namespace Go.Proofs.Ytnbnghihmophpaa
open Go.RowKit
set_option maxRecDepth 20000
set_option maxHeartbeats 4000000
set_option linter.unusedVariables false
set_option linter.unusedSimpArgs false


theorem conv_fr {base : Nat} {w : World} (hs : base ≤ w.heap.size) (x : UInt8) : ∃ cap w', 1 ≤ cap ∧ (convert 9 23 (.string ⟨#[x]⟩)).run Try.prog w = .ok (.slice (some ⟨w.heap.size, 0, none⟩) 1 cap) w' ∧ Below w.heap.size w w' ∧ ∀ W, Fr base w' W → Rd W (some ⟨w.heap.size, 0, none⟩) (bv [x]) := by
  refine ⟨_, _, ?_, run_bytes_of_string w 9 23 5 ⟨#[x]⟩ Try.underlying9 Try.underlying23 Try.underlying5, ?_, ?_⟩
  · exact grownCap_ge w 1 0 5
  · exact ((Below.refl _ w).drew).alloc (Nat.le_refl _) _
  · intro W hW j hj
    obtain rfl : j = 0 := by simp [bv] at hj; omega
    refine ⟨w.heap.size, 0, rfl, ?_⟩
    have hb : (w.drew.alloc (.cells (bytesRow ⟨#[x]⟩ (grownCap w 1 0 5)) 5 ((bytesRow ⟨#[x]⟩ (grownCap w 1 0 5)).size, (bytesRow ⟨#[x]⟩ (grownCap w 1 0 5)).size + 1))).heap[w.heap.size]? = some (.cells (bytesRow ⟨#[x]⟩ (grownCap w 1 0 5)) 5 ((bytesRow ⟨#[x]⟩ (grownCap w 1 0 5)).size, (bytesRow ⟨#[x]⟩ (grownCap w 1 0 5)).size + 1)) := by
      show (w.heap.push _)[w.heap.size]? = _
      simp
    have h2 := (hW.typ _ _ _ _ hb (by decide) (by decide)).trans hb
    unfold World.cell?
    simp only
    rw [h2]
    simp only [bytesRow]
    rw [Array.getElem?_append_left (by simp)]
    simp [bv]
theorem same_works (B : Nat) (os : List (Value × List UInt8)) (A : Option Addr) (c : Nat) (xs : List (List UInt8)) (W0 W : World) (hlen : xs.length ≤ 5) (hm : os.map (·.2) = xs) (hp : ∀ x ∈ xs, 0 < x.length) (ho : W0.ownsRow B 23 1 (.slice A os.length c) os.length (os.map (·.1))) (hoa : ∀ p ∈ os, OutAt B W0 p) (hB : Below W0.heap.size W0 W) (n : Nat) (hn : n = xs.length) (cs : Array Value) (hcs : cs = (xs.map sv).toArray) :
    Calls Try.prog 55 #[.slice A os.length c, .slice (some ⟨W.heap.size, 0, none⟩) n n] (W.alloc (Obj.cells cs 9)) fun e w' => e = .returned (.bool true) ∧ Below W.heap.size W w' := by
  subst hn hcs
  have hl : os.length = xs.length := by rw [← hm]; simp
  have hB2 : Below W0.heap.size W0 (W.alloc (Obj.cells (xs.map sv).toArray 9)) := hB.alloc hB.size _
  refine (sameT_any B os A (some ⟨W.heap.size, 0, none⟩) c xs.length xs _ (by omega) (by omega) (Rd.of_own (own_below ho hB2)) (fun p hq => ⟨?_, hp _ (by rw [← hm]; exact List.mem_map.2 ⟨p, hq, rfl⟩)⟩) ?_).mono ?_
  · obtain ⟨A', c', h1, h2⟩ := hoa p hq
    exact ⟨A', c', h1, own_below h2 hB2⟩
  · intro j hj
    exact ⟨W.heap.size, 0, rfl, by rw [Nat.zero_add, (Blk.new W 9 _).cell]; simp [List.getElem?_eq_getElem hj]⟩
  · rintro e w' ⟨rfl, m, rfl⟩
    refine ⟨by rw [hm]; simp, ?_⟩
    have h1 := (Below.refl W.heap.size W).alloc (Nat.le_refl _) (Obj.cells (xs.map sv).toArray 9)
    exact ⟨h1.os, h1.tape, h1.output, h1.size, h1.block⟩
theorem sw0 : SW 0 (newNet fsW) := ⟨rfl, rfl, rfl, rfl, rfl, rfl, rfl, rfl, rfl, fun i j hi => absurd hi (by simp [newNet])⟩
theorem hB0_below {w w1 w2 : World} (h : Below w.heap.size w w1) (k : Below w1.heap.size w1 w2) : Below w.heap.size w w2 := h.trans (k.mono h.size)
theorem netWorks_any (w : World) : Calls Try.prog 48 #[] w fun e w' => e = .returned (.bool true) ∧ Below w.heap.size w w' := by
  have HF0 := Blk.new w 79 (fcells fsW).toArray
  have HN1 : Hid (Calls Try.prog 49 #[.slice (some ⟨w.heap.size, 0, none⟩) 4 4] (w.alloc (Obj.cells #[.int .i64 0, .int .u16 0, .int .i64 0, .int .u8 0, .int .i64 1, .int .u16 0, .int .i64 0, .int .u8 0, .int .i64 2, .int .u16 1, .int .i64 0, .int .u8 0, .int .i64 4, .int .u16 0, .int .i64 0, .int .u8 0] 79)) fun e w' =>
      ∃ b F, e = .returned (.pointer (some ⟨b, 0, none⟩)) ∧ NetAt (w.heap.size + 1) w' b (newNet fsW) F (.slice none 0 0) (.slice none 0 0) ∧ Below w.heap.size w w') := by
    have h := new_any (some ⟨w.heap.size, 0, none⟩) 4 fsW (w.alloc (.cells (fcells fsW).toArray 79)) (by simp [fsW]) (by
      intro j hj
      exact ⟨w.heap.size, 0, rfl, by rw [Nat.zero_add, HF0.cell]; simp [List.getElem?_eq_getElem hj]⟩) (fun e => by cases e)
    refine (show Calls _ _ _ _ _ from h).mono ?_
    rintro e w' ⟨b, F, he, hN, hB⟩
    have hsz : (w.alloc (.cells (fcells fsW).toArray 79)).heap.size = w.heap.size + 1 := by simp
    rw [hsz] at hN hB
    exact ⟨b, F, he, hN, ((Below.refl _ w).alloc (Nat.le_refl _) _).trans (hB.mono (by omega))⟩
  clear HF0
  go_enter Try.func48, Try.ntmps48
  go_wp2_with (go_at_call 49; refine (HN1.out).mono ?_; rintro e w1 ⟨b, F, rfl, hN, hB⟩; have HN := Lib.hid hN; have HB := Lib.hid hB; clear hN hB)
  obtain ⟨W0, hW0⟩ : ∃ W0, W0 = w1.alloc (Obj.cells #[Value.string { data := #[97] }, Value.string { data := #[98] }, Value.string { data := #[99] }, Value.string { data := #[100] }] 9) := ⟨_, rfl⟩
  have hT0 : Blk W0 w1.heap.size 9 #[Value.string { data := #[97] }, Value.string { data := #[98] }, Value.string { data := #[99] }, Value.string { data := #[100] }] := by rw [hW0]; exact Blk.new w1 9 _
  have hbs : w.heap.size + 1 ≤ w1.heap.size := by have := HN.out.hb; have := HN.out.blk.lt; omega
  have HB0 := Lib.hid (show Below w1.heap.size w1 W0 by rw [hW0]; exact (Below.refl _ w1).alloc (Nat.le_refl _) _)
  have HNW := Lib.hid (HN.out.below hbs HB0.out)
  have HT0 := Lib.hid hT0
  have HBW := Lib.hid (hB0_below HB.out HB0.out)
  rw [← hW0]
  clear hW0 hT0 HN HB HN1
  go_loopw [15] (fun i wr => ∃ k : Nat, k ≤ 4 ∧ i = .int .i64 k ∧ ∃ s v1', Hid (SW k s) ∧ Hid (NetAt (w.heap.size + 1) wr b s F (.slice none 0 0) v1') ∧ Hid (Fr (w.heap.size + 1) W0 wr)) (fun i _ => 4 - (intOf i).toNat)
  case atStart => exact ⟨0, by omega, rfl, _, _, sw0, HNW.out, Fr.refl _ _⟩
  case round =>
    obtain ⟨k, hk, rfl, s, v1', HS, HN, HF⟩ := hrel
    by_cases hk4 : k < 4
    · obtain ⟨cap, wc, hcap, hcv, hfc, hrd⟩ := conv_fr (base := w.heap.size + 1) (w := wr) (by have := HN.out.hb; have := HN.out.blk.lt; omega) (chW k)
      have HSND := Lib.hid (send_works k hk4 (w.heap.size + 1) b s F (.slice none 0 0) v1' wc)
      have HTX := Lib.hid ((HT0.out.fr HF.out (by decide) (by decide)).cell k)
      have HFC := Lib.hid hfc
      have HRD := Lib.hid hrd
      have HEN57 := Lib.hid (callFunc_in (P := Try.prog) (f := 57) (fn := Try.f57) rfl (by kernel_rfl) (by kernel_rfl))
      have HLE := Lib.hid (show w.heap.size + 1 ≤ wr.heap.size by have := HN.out.hb; have := HN.out.blk.lt; omega)
      clear hfc hrd
      rcases (by omega : k = 0 ∨ k = 1 ∨ k = 2 ∨ k = 3) with rfl | rfl | rfl | rfl
      all_goals
        have htx := HTX.out
        simp [chW] at htx hcv
        go_wp2_with (go_at_call 57; refine (HSND.out (HN.out.below HLE.out HFC.out) HS.out _ cap hcap HRD.out).mono ?_; rintro e w5 ⟨rfl, s', v2', hs', hn', hf'⟩)
        exact ⟨⟨_, by omega, by go_num, s', v2', hs', hn', HF.out.trans ((Fr.of_below HLE.out HFC.out).trans hf')⟩, by simp [intOf]⟩
    · obtain rfl : k = 4 := by omega
      have HT1 := Lib.hid (take_works (w.heap.size + 1) b s F (.slice none 0 0) v1' wr HN.out 0 (lW 4) (lW 4) 0 0 0 0 HS.out.tw [] (by simp [lW]) (by decide +kernel) (by omega) (by omega) (by omega) (by simp [lW]) (by simp [lW, tkE]) (by simp [lW, bdE]) (by simp [lW]))
      have HT2 := Lib.hid (fun W s v1' (h : NetAt (w.heap.size + 1) W b s F (.slice none 0 0) v1') hs => take_works (w.heap.size + 1) b s F (.slice none 0 0) v1' W h 1 (lW 4) [(2, pc)] 0 0 2 1 hs [[97], [99]] (by simp [lW]) (by decide +kernel) (by omega) (by omega) (by omega) (by simp [lW]) (by decide +kernel) (by decide +kernel) (by decide +kernel))
      have HT3 := Lib.hid (fun W s v1' (h : NetAt (w.heap.size + 1) W b s F (.slice none 0 0) v1') hs => take_works (w.heap.size + 1) b s F (.slice none 0 0) v1' W h 2 [(2, pc)] [] 2 1 3 1 hs [[99]] (by simp) (by decide +kernel) (by omega) (by omega) (by omega) (by simp) (by decide +kernel) (by decide +kernel) (by decide +kernel))
      have HK := Lib.hid (fun W s v1' (h : NetAt (w.heap.size + 1) W b s F (.slice none 0 0) v1') t l tk bd hs => tick_works (w.heap.size + 1) b s F (.slice none 0 0) v1' W h t l tk bd hs)
      have HL := Lib.hid (show w.heap.size + 1 ≤ W0.heap.size by have := HNW.out.hb; have := HNW.out.blk.lt; omega)
      clear HN HNW HT0
      go_wp2_with (first
        | (go_at_call 54; refine (HT1.out).mono ?_; rintro e w2 ⟨os1, s2, v2, A1, c1, rfl, ho1, hoa1, hm1, hn2, hs2, hf2⟩
           obtain rfl : os1 = [] := by simpa using hm1
           have HN2 := Lib.hid hn2
           have HS2 := Lib.hid hs2
           have HF2 := Lib.hid (HF.out.trans hf2)
           clear ho1 hoa1 hm1 hn2 hs2 hf2 HT1 HF HS)
        | (go_at_call 52; refine (HK.out _ _ _ HN2.out _ _ _ _ HS2.out (by omega)).mono ?_; rintro e w3 ⟨⟨v, rfl⟩, s3, hn3, hs3, hf3⟩
           have HN3 := Lib.hid hn3
           have HS3 := Lib.hid hs3
           have HF3 := Lib.hid (HF2.out.trans hf3)
           clear hn3 hs3 hf3 HN2 HS2 HF2)
        | (go_at_call 54; refine (HT2.out _ _ _ HN3.out HS3.out).mono ?_; rintro e w4 ⟨os4, s4, v4, A4, c4, rfl, ho4, hoa4, hm4, hn4, hs4, hf4⟩
           have HO4 := Lib.hid ho4
           have HA4 := Lib.hid hoa4
           have HM4 := Lib.hid hm4
           have HN4 := Lib.hid hn4
           have HS4 := Lib.hid hs4
           have HF4 := Lib.hid (HF3.out.trans hf4)
           clear ho4 hoa4 hm4 hn4 hs4 hf4 HT2 HN3 HS3 HF3)
        | (go_at_call 52; refine (HK.out _ _ _ HN4.out _ _ _ _ HS4.out (by omega)).mono ?_; rintro e w5 ⟨⟨v, rfl⟩, s5, hn5, hs5, hf5⟩
           have HN5 := Lib.hid hn5
           have HS5 := Lib.hid hs5
           have HF45 := Lib.hid hf5
           have HF5 := Lib.hid (HF4.out.trans hf5)
           clear hn5 hs5 hf5 HN4 HS4 HF4 HK)
        | (go_at_call 54; refine (HT3.out _ _ _ HN5.out HS5.out).mono ?_; rintro e w6 ⟨os6, s6, v6, A6, c6, rfl, ho6, hoa6, hm6, hn6, hs6, hf6⟩
           have HO6 := Lib.hid ho6
           have HA6 := Lib.hid hoa6
           have HP1 := Lib.hid (fun W hB => same_works _ os4 A4 c4 [[97], [99]] w6 W (by simp) HM4.out (by simp) (own_fr23 HO4.out (HF45.out.trans hf6)) (fun p hp => (HA4.out p hp).fr (HF45.out.trans hf6)) hB 2 rfl #[Value.string { data := #[97] }, Value.string { data := #[99] }] rfl)
           have HP2 := Lib.hid (fun W hB => same_works _ os6 A6 c6 [[99]] w6 W (by simp) hm6 (by simp) ho6 hoa6 hB 1 rfl #[Value.string { data := #[99] }] rfl)
           have HP3 := Lib.hid (fun W (hB : Below w6.heap.size w6 W) => counts_works _ b s6 F (.slice none 0 0) v6 W (hn6.below (by have := hn6.hb; have := hn6.blk.lt; omega) hB) 2 [] 3 1 hs6)
           have HM6 := Lib.hid hm6
           have HN6 := Lib.hid hn6
           have HS6 := Lib.hid hs6
           have HF6 := Lib.hid (HF5.out.trans hf6)
           clear ho6 hoa6 hm6 hn6 hs6 hf6 HT3 HN5 HS5 HF5 HF45 HO4 HA4)
        | (go_at_call 55; refine (HP1.out w6 (Below.refl _ _)).mono ?_; rintro e w7 ⟨rfl, hb7⟩; have HB7 := Lib.hid hb7; clear hb7 HP1)
        | (go_at_call 55; refine (HP2.out w7 HB7.out).mono ?_; rintro e w8 ⟨rfl, hb8⟩; have HB8 := Lib.hid (HB7.out.trans (hb8.mono HB7.out.size)); clear hb8 HP2)
        | (go_at_call 61; refine (HP3.out w8 HB8.out).mono ?_; rintro e w9 ⟨rfl, hb9⟩; have HB9 := Lib.hid (HB8.out.trans (hb9.mono HB8.out.size)); clear hb9 HP3))
      go_ret
      exact ⟨rfl, HBW.out.trans (((HF6.out.trans (Fr.of_below (by have := HL.out; have := HF6.out.size; omega) HB9.out)).below).mono (by omega))⟩
end Go.Proofs.Ytnbnghihmophpaa
