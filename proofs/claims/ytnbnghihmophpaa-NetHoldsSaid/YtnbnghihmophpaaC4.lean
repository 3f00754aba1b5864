/- Walks: rows joined; bytes with their check, and opened; the document's. -/
import Derived.Test.YtnbnghihmophpaaC3
namespace Go.Proofs.Ytnbnghihmophpaa
open Go.RowKit
set_option maxRecDepth 20000
set_option maxHeartbeats 1000000
set_option linter.unusedVariables false
set_option linter.unusedSimpArgs false

/-- A slice of slices of bytes. -/
def RdRows (w : World) (A : Option Addr) (xss : List (List UInt8)) : Prop :=
  ∀ i (h : i < xss.length), ∃ b off A' c', A = some ⟨b, off, none⟩ ∧ w.cell? ⟨b, off + i, none⟩ = some (.slice A' xss[i].length c') ∧ xss[i].length ≤ c' ∧ Rd w A' (bv xss[i])
theorem RdRows.below {w w' : World} {A : Option Addr} {xss : List (List UInt8)} (h : RdRows w A xss) (hb : Below w.heap.size w w') : RdRows w' A xss := by
  intro i hi
  obtain ⟨b, off, A', c', h1, h2, h3, h4⟩ := h i hi
  exact ⟨b, off, A', c', h1, cell_later hb h2, h3, h4.below hb⟩
def fl (xss : List (List UInt8)) (k : Nat) : List UInt8 := (xss.take k).flatten
theorem fl_snoc (xss : List (List UInt8)) (k : Nat) (h : k < xss.length) : fl xss (k + 1) = fl xss k ++ xss[k] := by
  unfold fl; rw [List.take_succ_eq_append_getElem h, List.flatten_append]; simp
theorem fl_le (xss : List (List UInt8)) (k : Nat) : (fl xss k).length ≤ xss.flatten.length := by
  unfold fl
  conv => rhs; rw [← List.take_append_drop k xss]
  simp only [List.flatten_append, List.length_append]; omega
theorem fl_all (xss : List (List UInt8)) : fl xss xss.length = xss.flatten := by rw [fl, List.take_length]

theorem concat_any (A : Option Addr) (xss : List (List UInt8)) (ys : List UInt8) (cap : Nat) (w : World) (hn : xss.length ≤ 1000000) (hy : xss.flatten = ys) (hm : ys.length ≤ 140737488355328) (hr : RdRows w A xss) :
    Calls Try.prog 64 #[.slice A xss.length cap] w fun e w' => ∃ A' c', e = .returned (.slice A' ys.length c') ∧ w'.ownsRow w.heap.size 5 1 (.slice A' ys.length c') ys.length (bv ys) ∧ Below w.heap.size w w' := by
  have HY := Lib.hid hy
  have hall : fl xss xss.length = ys := by rw [fl_all, hy]
  have HA := Lib.hid hall
  have hfl : ∀ k, (fl xss k).length ≤ ys.length := fun k => by rw [← hy]; exact fl_le xss k
  have HL := Lib.hid hfl
  clear hy hall hfl
  go_enter Try.func64, Try.ntmps64
  go_wp2
  go_loop [3, 11] (fun s i => ∃ k : Nat, k ≤ xss.length ∧ i = .int .i64 k ∧ s = .int .i64 ((fl xss k).length : Nat)) (fun _ i => xss.length - (intOf i).toNat)
  case atStart => exact ⟨0, by omega, rfl, rfl⟩
  case round =>
    obtain ⟨k, hk, rfl, rfl⟩ := hrel
    by_cases hlt : k < xss.length
    · obtain ⟨b, off, A', c', rfl, hc, _, _⟩ := hr k hlt
      have hs : (fl xss (k + 1)).length = (fl xss k).length + xss[k].length := by rw [fl_snoc xss k hlt, List.length_append]
      have hle' : (fl xss k).length + xss[k].length ≤ 140737488355328 := by
        have := HL.out (k + 1); omega
      have hs := Lib.hid hs
      clear hr
      generalize (fl xss k).length = m at *
      generalize xss[k].length = n at *
      go_wp2
      go_round
      case rel => exact ⟨k + 1, by omega, by go_num, by rw [hs.out]; go_num⟩
      case measure => simp [intOf]; omega
    · obtain rfl : k = xss.length := by omega
      rw [HA.out]
      clear hlt hk
      go_wp2_with (go_at_call 97; refine (grow_any _ _ hm).mono ?_; rintro e w1 ⟨A1, c1, rfl, hown, hb⟩)
      go_loopw [6, 27] (fun v i wr => ∃ k : Nat, k ≤ xss.length ∧ i = .int .i64 k ∧ wr.ownsRow w.heap.size 5 1 v (fl xss k).length (bv (fl xss k)) ∧ Below w.heap.size w wr) (fun _ i _ => xss.length - (intOf i).toNat)
      case atStart => exact ⟨0, by omega, rfl, hown, hb⟩
      case round =>
        obtain ⟨k, hk, rfl, hown1, hb1⟩ := hrel
        by_cases hlt : k < xss.length
        · obtain ⟨b, off, A', c', rfl, hc, _, hra⟩ := hr.below hb1 k hlt
          have hs : (fl xss (k + 1)) = (fl xss k) ++ xss[k] := fl_snoc xss k hlt
          have hle' : (fl xss k).length + xss[k].length ≤ 140737488355328 := by
            have := HL.out (k + 1); rw [hs, List.length_append] at this; omega
          have hs := Lib.hid hs
          have HB1 := Lib.hid hb1
          clear hr hown hb hb1
          generalize hzz : xss[k] = zs at *
          clear hzz
          generalize fl xss k = pre at *
          go_wp2_with (at_builtin; refine wpList_append_rd rfl (.tmp 31) (.tmp 32) 23 rfl w.heap.size 5 (.int .u8 0) 1 1 Try.underlying23 info5 rfl (by omega) u6 pre.length (bv pre) rfl hown1 A' zs.length c' (bv zs) rfl (by simp) hra (bv_one zs) (by simp only [maxLen]; omega) (by omega) HB1.out.size ?_; intro v1 w2 hown2 hg _)
          rw [← bv_append, ← List.length_append, ← hs.out] at hown2
          have HO := Lib.hid hown2
          have HB2 := Lib.hid (HB1.out.grown hg HB1.out.size (fun k hk => (hown1.lt k hk).1))
          clear hown2 hown1 hg
          go_wp2
          go_roundw
          case rel => exact ⟨k + 1, by omega, by go_num, HO.out, HB2.out⟩
          case measure => simp [intOf]; omega
        · obtain rfl : k = xss.length := by omega
          rw [HA.out] at hown1
          obtain ⟨A', c', hv, _, _⟩ := own_slice hown1
          subst hv
          have HO := Lib.hid hown1
          have HB1 := Lib.hid hb1
          clear hr hown hb hb1 hown1
          go_wp2
          go_ret
          exact ⟨A', c', rfl, HO.out, HB1.out⟩

/-- A number of four bytes, the greatest first. -/
def be4 (c : Nat) : List UInt8 := [UInt8.ofNat (c / 16777216), UInt8.ofNat (c / 65536), UInt8.ofNat (c / 256), UInt8.ofNat c]
theorem u8_of (n : Nat) : (UInt8.ofNat n).toNat = n % 256 := by simp
theorem bv_be4 (c : Nat) (h : c < 4294967296) : bv (be4 c) = [.int .u8 ((c : Int) / 16777216), .int .u8 ((c : Int) / 65536 % 256), .int .u8 ((c : Int) / 256 % 256), .int .u8 ((c : Int) % 256)] := by
  simp only [bv, be4, List.map_cons, List.map_nil, u8_of]
  have h1 : ((c / 16777216 % 256 : Nat) : Int) = (c : Int) / 16777216 := by omega
  have h2 : ((c / 65536 % 256 : Nat) : Int) = (c : Int) / 65536 % 256 := by omega
  have h3 : ((c / 256 % 256 : Nat) : Int) = (c : Int) / 256 % 256 := by omega
  have h4 : ((c % 256 : Nat) : Int) = (c : Int) % 256 := by omega
  rw [h1, h2, h3, h4]
/-- A new row of cells reads as it was laid. -/
theorem Rd.new (w : World) (cs : Array Value) (t : TypeId) : Rd (w.alloc (.cells cs t)) (some ⟨w.heap.size, 0, none⟩) cs.toList := by
  intro j hj
  refine ⟨w.heap.size, 0, rfl, ?_⟩
  rw [Nat.zero_add, (Blk.new w t cs).cell j]
  simp at hj; simp [hj]

def Row4 (c : Nat) : Array Value := #[.int .u8 ((c : Int) / 16777216), .int .u8 ((c : Int) / 65536 % 256), .int .u8 ((c : Int) / 256 % 256), .int .u8 ((c : Int) % 256)]
theorem row4_be4 (c : Nat) (h : c < 4294967296) : (Row4 c).toList = bv (be4 c) := (bv_be4 c h).symm

theorem put_core (A : Option Addr) (xs ys : List UInt8) (cap c : Nat) (w : World) (hcs : Crc.sum xs = c) (hys : xs ++ be4 c = ys) (hm : xs.length ≤ 1000000000) (hc : xs.length ≤ cap) (hr : Rd w A (bv xs)) :
    Calls Try.prog 24 #[.slice A xs.length cap] w fun e w' => ∃ A' c', e = .returned (.slice A' ys.length c') ∧ w'.ownsRow w.heap.size 5 1 (.slice A' ys.length c') ys.length (bv ys) ∧ Below w.heap.size w w' := by
  have hl := Crc.sum_lt xs
  have h19 := fun W (hr : Rd W A (bv xs)) => sum_any A xs cap W (by omega) hr
  rw [hcs] at hl h19
  have H19 := Lib.hid h19
  have HY := Lib.hid hys
  have hlen : ys.length ≤ 140737488355328 := by rw [← hys, List.length_append]; simp [be4]; omega
  clear hcs hys h19
  go_enter Try.func24, Try.ntmps24
  go_wp2_with (go_at_call 19; refine (H19.out _ hr).mono ?_; rintro e w1 ⟨rfl, hb⟩)
  have hr1 := hr.below hb
  have hrow : RdRows ((w1.alloc (.cells (Row4 c) 5)).alloc (.cells #[.slice A xs.length cap, .slice (some ⟨w1.heap.size, 0, none⟩) 4 4] 23)) (some ⟨w1.heap.size + 1, 0, none⟩) [xs, be4 c] := by
    intro i hi
    match i, hi with
    | 0, _ => exact ⟨_, 0, A, cap, rfl, by simp, hc, (hr1.alloc _).alloc _⟩
    | 1, _ =>
      refine ⟨_, 0, _, 4, rfl, by simp [be4]; rfl, by simp [be4], ?_⟩
      have := Rd.new w1 (Row4 c) 5
      rw [row4_be4 c hl] at this
      exact this.alloc _
  have hb2 : Below w.heap.size w ((w1.alloc (.cells (Row4 c) 5)).alloc (.cells #[.slice A xs.length cap, .slice (some ⟨w1.heap.size, 0, none⟩) 4 4] 23)) :=
    (hb.alloc hb.size _).alloc (by have := hb.size; simp; omega) _
  have hz := hb2.size
  have HF : [xs, be4 c].flatten = ys := by rw [← HY.out]; simp
  refine (concat_any (some ⟨w1.heap.size + 1, 0, none⟩) [xs, be4 c] ys 2 _ (by simp) HF hlen hrow).mono ?_
  rintro e w2 ⟨A', c', rfl, hown, hb3⟩
  have HO := Lib.hid (own_mono hown hz)
  have HB := Lib.hid (below_then hb2 hb2.size hb3)
  clear hrow hown hb3 hb2 hr1 HF
  go_wp2
  go_ret
  exact ⟨A', c', rfl, HO.out, HB.out⟩
theorem put_any (A : Option Addr) (xs : List UInt8) (cap : Nat) (w : World) (hm : xs.length ≤ 1000000000) (hc : xs.length ≤ cap) (hr : Rd w A (bv xs)) :
    Calls Try.prog 24 #[.slice A xs.length cap] w fun e w' => ∃ A' c', e = .returned (.slice A' (xs ++ be4 (Crc.sum xs)).length c') ∧ w'.ownsRow w.heap.size 5 1 (.slice A' (xs ++ be4 (Crc.sum xs)).length c') (xs ++ be4 (Crc.sum xs)).length (bv (xs ++ be4 (Crc.sum xs))) ∧ Below w.heap.size w w' :=
  put_core A xs _ cap _ w rfl rfl hm hc hr

theorem refPut_core (A : Option Addr) (xs ys : List UInt8) (cap c : Nat) (w : World) (hcs : Crc.sum xs = c) (hys : xs ++ be4 c = ys) (hm : xs.length ≤ 1000000000) (hr : Rd w A (bv xs)) :
    Calls Try.prog 25 #[.slice A xs.length cap] w fun e w' => ∃ A' c', e = .returned (.slice A' ys.length c') ∧ w'.ownsRow w.heap.size 5 1 (.slice A' ys.length c') ys.length (bv ys) ∧ Below w.heap.size w w' := by
  have hl := Crc.sum_lt xs
  have h20 := fun W (hr : Rd W A (bv xs)) => refSum_any A xs cap W (by omega) hr
  rw [hcs] at hl h20
  have H20 := Lib.hid h20
  have hyl : ys.length = xs.length + 4 := by rw [← hys, List.length_append]; rfl
  have HL := Lib.hid hyl
  have HY : Hid (bv ys = bv xs ++ (Row4 c).toList) := by show _ = _; rw [← hys, bv_append, row4_be4 c hl]
  have hone : ∀ u ∈ (Row4 c).toList, u.oneCell' = true := by rw [row4_be4 c hl]; exact bv_one _
  clear hcs hys h20 hyl
  go_enter Try.func25, Try.ntmps25
  go_wp2_with (first
    | (go_at_call 20; refine (H20.out _ hr).mono ?_; rintro e w1 ⟨rfl, rfl⟩)
    | (at_builtin; refine wpList_append_rd rfl (.tmp 7) (.tmp 8) 23 rfl w.heap.size 5 (.int .u8 0) 1 1 Try.underlying23 info5 rfl (by omega) (.slice none 0 0) 0 [] rfl (World.ownsRow_nil _ _ _ _) A xs.length cap (bv xs) rfl (by simp) hr (bv_one xs) (by simp only [maxLen]; omega) (by omega) (Nat.le_refl _) ?_; intro v1 w1 hown hg _; simp only [Nat.zero_add, List.nil_append] at hown; have hb1 : Below w.heap.size w w1 := (Below.refl _ _).grown hg (Nat.le_refl _) (by simp [Value.ownBlock]); have HO := Lib.hid hown; have HB := Lib.hid hb1; clear hown hb1 hg)
    | (at_builtin; refine wpList_append_rd rfl (.tmp 10) (.tmp 25) 23 rfl w.heap.size 5 (.int .u8 0) 1 1 Try.underlying23 info5 rfl (by omega) v1 xs.length (bv xs) rfl (HO.out.alloc _) (some ⟨w1.heap.size, 0, none⟩) 4 4 (Row4 c).toList rfl rfl (Rd.new w1 (Row4 c) 5) hone (by simp only [maxLen]; omega) (by omega) (by have := HB.out.size; simp; omega) ?_; intro v2 w2 hown2 hg2 _))
  have hb2 : Below w.heap.size w w2 := (HB.out.alloc HB.out.size _).grown hg2 (by have := HB.out.size; simp; omega) (fun k hk => (HO.out.lt k hk).1)
  rw [← HY.out, ← HL.out] at hown2
  obtain ⟨A', c', hv, _, _⟩ := own_slice hown2
  subst hv
  have HO2 := Lib.hid hown2
  have HB2 := Lib.hid hb2
  go_ret
  exact ⟨A', c', rfl, HO2.out, HB2.out⟩
theorem refPut_any (A : Option Addr) (xs : List UInt8) (cap : Nat) (w : World) (hm : xs.length ≤ 1000000000) (hr : Rd w A (bv xs)) :
    Calls Try.prog 25 #[.slice A xs.length cap] w fun e w' => ∃ A' c', e = .returned (.slice A' (xs ++ be4 (Crc.sum xs)).length c') ∧ w'.ownsRow w.heap.size 5 1 (.slice A' (xs ++ be4 (Crc.sum xs)).length c') (xs ++ be4 (Crc.sum xs)).length (bv (xs ++ be4 (Crc.sum xs))) ∧ Below w.heap.size w w' :=
  refPut_core A xs _ cap _ w rfl rfl hm hr
end Go.Proofs.Ytnbnghihmophpaa
