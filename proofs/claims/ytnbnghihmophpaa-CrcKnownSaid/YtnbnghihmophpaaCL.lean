/- The walk of the examples of chapter 2. -/
import Derived.Test.YtnbnghihmophpaaCK
import Derived.Test.YtnbnghihmophpaaC7
namespace Go.Proofs.Ytnbnghihmophpaa
open Go.RowKit
set_option maxRecDepth 20000
set_option maxHeartbeats 1000000
set_option linter.unusedVariables false
set_option linter.unusedSimpArgs false

theorem crcSums_int (c : Int) (A : Option Addr) (xs : List UInt8) (n cap : Nat) (w : World) (h0 : 0 ≤ c) (h1 : c < 4294967296) (hn : n = xs.length) (hm : n ≤ 3000) (hr : Rd w A (bv xs)) :
    Calls Try.prog 3 #[.int .u32 c, .slice A n cap] w fun e w' => e = .returned (.bool true) ∧ Below w.heap.size w w' := by
  obtain ⟨c, rfl⟩ := Int.eq_ofNat_of_zero_le h0
  subst hn
  exact crcSums_walk c A xs cap w (by omega) (by omega) hr
theorem crcOpens_nat (A B : Option Addr) (xs os : List UInt8) (n m cap capo : Nat) (w : World) (hn : n = xs.length) (hm : m = os.length) (hn' : n ≤ 3000) (hm' : m ≤ 3000)
    (hc : n ≤ cap) (hco : m ≤ capo) (hr : Rd w A (bv xs)) (hro : Rd w B (bv os)) :
    Calls Try.prog 4 #[.slice A n cap, .slice B m capo] w fun e w' => e = .returned (.bool true) ∧ Below w.heap.size w w' := by
  subst hn hm
  exact crcOpens_walk A B xs os cap capo w (by omega) (by omega) hc hco hr hro
theorem crcJoins_int (A B : Option Addr) (xs ys : List UInt8) (nx ny cap capy : Nat) (a b c m n : Int) (w : World) (hnx : nx = xs.length) (hny : ny = ys.length) (hx : nx ≤ 1000) (hy : ny ≤ 1000)
    (a0 : 0 ≤ a) (ha : a < 4294967296) (b0 : 0 ≤ b) (hb : b < 4294967296) (c0 : 0 ≤ c) (hc : c < 4294967296) (m0 : 0 ≤ m) (hm : m < 18446744073709551616) (n0 : 0 ≤ n) (hn : n < 18446744073709551616)
    (hr : Rd w A (bv xs)) (hry : Rd w B (bv ys)) :
    Calls Try.prog 30 #[.slice A nx cap, .slice B ny capy, .int .u32 a, .int .u32 b, .int .u32 c, .int .u64 m, .int .u64 n] w fun e w' => e = .returned (.bool true) ∧ Below w.heap.size w w' := by
  obtain ⟨a, rfl⟩ := Int.eq_ofNat_of_zero_le a0
  obtain ⟨b, rfl⟩ := Int.eq_ofNat_of_zero_le b0
  obtain ⟨c, rfl⟩ := Int.eq_ofNat_of_zero_le c0
  obtain ⟨m, rfl⟩ := Int.eq_ofNat_of_zero_le m0
  obtain ⟨n, rfl⟩ := Int.eq_ofNat_of_zero_le n0
  subst hnx hny
  exact crcJoins_walk A B xs ys cap capy a b c m n w hx hy (by omega) (by omega) (by omega) (by omega) (by omega) hr hry
theorem crcFinds_int (A : Option Addr) (xs : List UInt8) (nx cap : Nat) (at_ x0 x1 x2 x3 : Int) (check : Bool) (w : World) (hnx : nx = xs.length) (hm : nx ≤ 3000) (hc : nx ≤ cap)
    (a0 : 0 ≤ x0) (b0 : x0 < 256) (a1 : 0 ≤ x1) (b1 : x1 < 256) (a2 : 0 ≤ x2) (b2 : x2 < 256) (a3 : 0 ≤ x3) (b3 : x3 < 256) (hr : Rd w A (bv xs)) :
    Calls Try.prog 5 #[.slice A nx cap, .int .i64 at_, .agg #[.int .u8 x0, .int .u8 x1, .int .u8 x2, .int .u8 x3], .bool check] w fun e w' => e = .returned (.bool true) ∧ Below w.heap.size w w' := by
  subst hnx
  have key := crcFinds_walk A xs cap at_ (fun i => if i = 0 then UInt8.ofNat x0.toNat else if i = 1 then UInt8.ofNat x1.toNat else if i = 2 then UInt8.ofNat x2.toNat else UInt8.ofNat x3.toNat) check w (by omega) hc hr
  have e0 : ((x0.toNat % 256 : Nat) : Int) = x0 := by omega
  have e1 : ((x1.toNat % 256 : Nat) : Int) = x1 := by omega
  have e2 : ((x2.toNat % 256 : Nat) : Int) = x2 := by omega
  have e3 : ((x3.toNat % 256 : Nat) : Int) = x3 := by omega
  have e : byCells (fun i => if i = 0 then UInt8.ofNat x0.toNat else if i = 1 then UInt8.ofNat x1.toNat else if i = 2 then UInt8.ofNat x2.toNat else UInt8.ofNat x3.toNat) = #[.int .u8 x0, .int .u8 x1, .int .u8 x2, .int .u8 x3] := by
    simp [byCells, e0, e1, e2, e3]
  rw [e] at key
  exact key
/-- A new row of bytes, told as numbers. -/
theorem Rd.ints (w : World) (l : List Int) (h : ∀ x ∈ l, 0 ≤ x ∧ x < 256) : Rd (w.alloc (.cells (l.map (Value.int .u8)).toArray 5)) (some ⟨w.heap.size, 0, none⟩) (bv (l.map fun x => UInt8.ofNat x.toNat)) := by
  have := Rd.new w (l.map (Value.int .u8)).toArray 5
  have e : bv (l.map fun x => UInt8.ofNat x.toNat) = l.map (Value.int .u8) := by
    simp only [bv, List.map_map]
    apply List.map_congr_left
    intro x hx
    have := h x hx
    simp only [Function.comp, u8_of]
    congr 1; omega
  rw [e]; simpa using this
theorem crcKnown_walk (w : World) : Calls Try.prog 6 #[] w fun e w' => e = .returned (.bool true) ∧ Below w.heap.size w w' := by
  go_enter Try.func6, Try.ntmps6
  go_wp2
  go_loopw [1] (fun iv wr => ∃ k : Nat, k ≤ 256 ∧ iv = .int .i64 k ∧ Below w.heap.size w wr) (fun iv _ => 256 - (intOf iv).toNat)
  case atStart => exact ⟨0, by omega, rfl, Below.refl _ _⟩
  case round =>
    obtain ⟨k, hk, rfl, hb⟩ := hrel
    by_cases hlt : k < 256
    · have hd : decide ((k : Int) < 256) = true := by simp; omega
      have HB := Lib.hid hb
      clear hb
      have hk1 : ∀ x ∈ [(k : Int)], 0 ≤ x ∧ x < 256 := by intro x hx; simp at hx; omega
      have hk4 : ∀ x ∈ [(0 : Int), 0, 0, (k : Int)], 0 ≤ x ∧ x < 256 := by intro x hx; simp at hx; omega
      have HK1 := Lib.hid hk1
      have HK4 := Lib.hid hk4
      clear hk1 hk4
      go_wp2_with fail
      have hr1 := Rd.ints wr [(k : Int)] HK1.out
      refine (crcSums_int _ (some ⟨wr.heap.size, 0, none⟩) _ 1 1 _ (by omega) (by omega) (by simp) (by omega) hr1).mono ?_
      rintro e w1 ⟨rfl, hb1⟩
      have HR1 := Lib.hid (hr1.below hb1)
      have HB1 := Lib.hid (below_then (HB.out.alloc HB.out.size _) (by have := HB.out.size; simp; omega) hb1)
      clear hr1 hb1
      go_wp2_with fail
      have hr4 := Rd.ints w1 [(0 : Int), 0, 0, (k : Int)] HK4.out
      refine (crcOpens_nat (some ⟨wr.heap.size, 0, none⟩) (some ⟨w1.heap.size, 0, none⟩) _ _ 1 4 1 4 _ (by simp) (by simp) (by omega) (by omega) (by omega) (by omega) (HR1.out.alloc _) hr4).mono ?_
      rintro e w2 ⟨rfl, hb2⟩
      have HB2 := Lib.hid (below_then (HB1.out.alloc HB1.out.size _) (by have := HB1.out.size; simp; omega) hb2)
      clear hr4 hb2
      go_wp2
      go_roundw
      case rel => exact ⟨k + 1, by omega, by go_num, HB2.out⟩
      case measure => simp [intOf]; omega
    · have hd : decide ((k : Int) < 256) = false := by simp; omega
      have HB := Lib.hid hb
      clear hb
      go_wp2
      go_loopw [3, 4] (fun lv iv wr => ∃ k : Nat, ∃ A c, ∃ xs : List UInt8, k ≤ 60 ∧ iv = .int .i64 k ∧ lv = .slice A k c ∧ xs.length = k ∧ wr.ownsRow w.heap.size 5 1 (.slice A k c) k (bv xs) ∧ Below w.heap.size w wr) (fun _ iv _ => 60 - (intOf iv).toNat)
      case atStart => exact ⟨0, none, 0, [], by omega, rfl, rfl, rfl, World.ownsRow_nil _ _ _ _, HB.out⟩
      case round =>
        clear HB hlt hk hd
        obtain ⟨k, A, c, xs, hk, rfl, rfl, hl, hown, hb⟩ := hrel
        by_cases hlt : k < 60
        · have hd : decide ((k : Int) < 60) = true := by simp; omega
          have hc : k ≤ c := by obtain ⟨_, _, he, hle, _⟩ := own_slice hown; injection he with _ _ he; omega
          have q0 : (0 : Int) ≤ (k : Int) * k := Int.mul_nonneg (by omega) (by omega)
          have q1 : (k : Int) * k ≤ 3600 := by
            have : (k : Int) * k ≤ 60 * 60 := Int.mul_le_mul (by omega) (by omega) (by omega) (by omega)
            omega
          have hrd := Rd.of_own hown
          have HO := Lib.hid hown
          have HB := Lib.hid hb
          have HL := Lib.hid hl
          clear hown hb hl
          go_wp2_with fail
          refine (crcSums_int _ A xs k c wr (by omega) (by omega) HL.out.symm (by omega) hrd).mono ?_
          rintro e w1 ⟨rfl, hb1⟩
          have HB1 := Lib.hid (below_seq HB.out hb1)
          have HO1 := Lib.hid (own_below HO.out hb1)
          have hrd1 := hrd.below hb1
          clear hrd hb1
          go_wp2_with fail
          refine (crcOpens_nat A A xs xs k k c c w1 HL.out.symm HL.out.symm (by omega) (by omega) hc hc hrd1 hrd1).mono ?_
          rintro e w2 ⟨rfl, hb2⟩
          have HB2 := Lib.hid (below_seq HB1.out hb2)
          have HO2 := Lib.hid (own_below HO1.out hb2)
          have hrd2 := hrd1.below hb2
          clear hrd1 hb2
          have ht : (xs.take (k / 2)).length = k / 2 := by rw [List.length_take, HL.out]; omega
          have hrt := hrd2.take (k / 2)
          rw [← bv_take] at hrt
          go_wp2_with fail
          refine (crcJoins_int A A xs (xs.take (k / 2)) k (k / 2) c c _ _ _ _ _ w2 HL.out.symm ht.symm (by omega) (by omega) (by omega) (by omega) (by omega) (by omega) (by omega) (by omega) (by omega) (by omega) (by omega) (by omega) hrd2 hrt).mono ?_
          rintro e w3 ⟨rfl, hb3⟩
          have HB3 := Lib.hid (below_seq HB2.out hb3)
          have HO3 := Lib.hid (own_below HO2.out hb3)
          clear hrt hb3 ht hrd2
          go_wp2
          obtain ⟨wo, rfl⟩ : ∃ wo : World, wo = w3 := ⟨_, rfl⟩
          go_loopw [5] (fun iv wr => ∃ m : Nat, m ≤ k ∧ iv = .int .i64 m ∧ wr.ownsRow w.heap.size 5 1 (.slice A k c) k (bv xs) ∧ Below w.heap.size w wr) (fun iv _ => k - (intOf iv).toNat)
          case atStart => exact ⟨0, by omega, rfl, HO3.out, HB3.out⟩
          case round =>
            clear HO3 HB3 HO HO1 HO2 HB HB1 HB2
            obtain ⟨m, hm, rfl, hown, hb⟩ := hrel
            by_cases hm' : m < k
            · have hrd := Rd.of_own hown
              have HO := Lib.hid hown
              have HB := Lib.hid hb
              clear hown hb
              go_wp2_with fail
              refine (crcFinds_int A xs k c _ _ _ _ _ _ wr HL.out.symm (by omega) hc (by omega) (by omega) (by omega) (by omega) (by omega) (by omega) (by omega) (by omega) hrd).mono ?_
              rintro e w4 ⟨rfl, hb4⟩
              have HB4 := Lib.hid (below_seq HB.out hb4)
              have HO4 := Lib.hid (own_below HO.out hb4)
              have hrd4 := hrd.below hb4
              clear hrd hb4
              go_wp2_with fail
              refine (crcFinds_int A xs k c _ _ _ _ _ _ w4 HL.out.symm (by omega) hc (Int.emod_nonneg _ (by omega)) (Int.emod_lt_of_pos _ (by omega)) (by omega) (by omega) (by omega) (by omega) (by omega) (by omega) hrd4).mono ?_
              rintro e w5 ⟨rfl, hb5⟩
              have HB5 := Lib.hid (below_seq HB4.out hb5)
              have HO5 := Lib.hid (own_below HO4.out hb5)
              clear hrd4 hb5
              go_wp2
              go_roundw
              case rel => exact ⟨m + 1, by omega, by go_num, HO5.out, HB5.out⟩
              case measure => simp [intOf]; omega
            · have hX : ∀ x ∈ [((k : Int) * k * 7 + k) % 256], 0 ≤ x ∧ x < 256 := by
                intro x hx; simp only [List.mem_singleton] at hx; subst hx; exact ⟨Int.emod_nonneg _ (by omega), Int.emod_lt_of_pos _ (by omega)⟩
              have hnew := Rd.ints wr [((k : Int) * k * 7 + k) % 256] hX
              have HO := Lib.hid hown
              have HB := Lib.hid hb
              have HN := Lib.hid hnew
              clear hown hb hX hnew
              go_wp2_with (at_builtin; refine wpList_append_rd rfl (.tmp 95) (.tmp 103) 23 rfl w.heap.size 5 (.int .u8 0) 1 1 Try.underlying23 info5 rfl (by omega) (.slice A k c) k (bv xs) rfl (HO.out.alloc _) (some ⟨wr.heap.size, 0, none⟩) 1 1 _ rfl (by simp [bv]) HN.out (bv_one _) (by simp only [maxLen]; omega) (by omega) (by have := HB.out.size; simp; omega) ?_; intro v2 w2 ho2 hg2 _; obtain ⟨A2, c2, hv, _, _⟩ := own_slice ho2; subst hv; rw [← bv_append] at ho2; have HO2 := Lib.hid ho2; have HB2 := Lib.hid ((HB.out.alloc HB.out.size _).grown hg2 (by have := HB.out.size; simp; omega) (fun k hk => (HO.out.lt k hk).1)); clear ho2 hg2)
              go_roundw
              case rel => exact ⟨k + 1, A2, c2, _, by omega, by go_num, rfl, by rw [List.length_append, HL.out]; rfl, HO2.out, HB2.out⟩
              case measure => simp [intOf]; omega
        · have HB := Lib.hid hb
          have hd : decide ((k : Int) < 60) = false := by simp; omega
          clear hown hb hl
          go_wp2_with fail
          have hr1 := Rd.ints wr [(0 : Int)] (by intro x hx; simp at hx; omega)
          refine (crcFinds_int (some ⟨wr.heap.size, 0, none⟩) _ 1 1 _ _ _ _ _ _ _ (by simp) (by omega) (by omega) (by omega) (by omega) (by omega) (by omega) (by omega) (by omega) (by omega) (by omega) hr1).mono ?_
          rintro e w1 ⟨rfl, hb1⟩
          have HB1 := Lib.hid (below_then (HB.out.alloc HB.out.size _) (by have := HB.out.size; simp; omega) hb1)
          clear hr1 hb1
          go_wp2_with fail
          have hr3 := Rd.ints w1 [(0 : Int), 0, 0] (by intro x hx; simp at hx; omega)
          refine (crcOpens_nat none (some ⟨w1.heap.size, 0, none⟩) [] _ 0 3 0 3 _ rfl (by simp) (by omega) (by omega) (by omega) (by omega) (Rd.nil _ _) hr3).mono ?_
          rintro e w2 ⟨rfl, hb2⟩
          have HB2 := Lib.hid (below_then (HB1.out.alloc HB1.out.size _) (by have := HB1.out.size; simp; omega) hb2)
          clear hr3 hb2
          go_wp2_with fail
          refine (crcJoins_int none none [] [] 0 0 0 0 _ _ _ _ _ w2 rfl rfl (by omega) (by omega) (by omega) (by omega) (by omega) (by omega) (by omega) (by omega) (by omega) (by omega) (by omega) (by omega) (Rd.nil _ _) (Rd.nil _ _)).mono ?_
          rintro e w3 ⟨rfl, hb3⟩
          have HB3 := Lib.hid (below_seq HB2.out hb3)
          clear hb3
          go_wp2_with fail
          refine (works_any _).mono ?_
          rintro e w4 ⟨rfl, hb4⟩
          have HB4 := Lib.hid (below_seq HB3.out hb4)
          clear hb4
          go_wp2
          go_ret
          exact ⟨rfl, HB4.out⟩
end Go.Proofs.Ytnbnghihmophpaa
