/- Walks: bytes opened, by the program and by the document; a row written over; a place brought into bounds; the examples. -/
import Derived.Test.YtnbnghihmophpaaC4
import Derived.Lib.SlBytesConst
namespace Go.Proofs.Ytnbnghihmophpaa
open Go.RowKit
set_option maxRecDepth 20000
set_option maxHeartbeats 1000000
set_option linter.unusedVariables false
set_option linter.unusedSimpArgs false

theorem Rd.head {w : World} {A : Option Addr} {xs ys : List UInt8} (h : Rd w A (bv (xs ++ ys))) : Rd w A (bv xs) := by
  have := h.take xs.length
  rw [← bv_take, List.take_left] at this
  exact this

theorem open_short (A : Option Addr) (xs : List UInt8) (cap : Nat) (w : World) (h : xs.length < 4) :
    Calls Try.prog 26 #[.slice A xs.length cap] w fun e w' => e = .returned (.tuple #[.slice none 0 0, .int .i64 10]) ∧ w = w' := by
  go_enter Try.func26, Try.ntmps26
  go_wp2
  go_ret2
  exact ⟨rfl, rfl⟩

/-- What comes of opening bytes: the body in a row of the call's own, or a refusal. -/
def OpenOwn (w : World) (body : List UInt8) (ok : Bool) (e : Ending) (w' : World) : Prop :=
  Below w.heap.size w w' ∧ (ok = true → ∃ A' c', e = .returned (.tuple #[.slice A' body.length c', .int .i64 0]) ∧ w'.ownsRow w.heap.size 5 1 (.slice A' body.length c') body.length (bv body)) ∧
      (ok = false → e = .returned (.tuple #[.slice none 0 0, .int .i64 140]))
/-- The same, the body in a row that is only read. -/
def OpenRd (w : World) (body : List UInt8) (ok : Bool) (e : Ending) (w' : World) : Prop :=
  Below w.heap.size w w' ∧ (ok = true → ∃ A' c', e = .returned (.tuple #[.slice A' body.length c', .int .i64 0]) ∧ body.length ≤ c' ∧ Rd w' A' (bv body)) ∧
      (ok = false → e = .returned (.tuple #[.slice none 0 0, .int .i64 140]))
theorem open_long (A : Option Addr) (body tail : List UInt8) (cap : Nat) (w : World) (ht : tail.length = 4) (hm : body.length ≤ 1000000) (hc : body.length + 4 ≤ cap) (hr : Rd w A (bv (body ++ tail))) (ok : Bool) (hok : (tail == be4 (Crc.sum body)) = ok) :
    Calls Try.prog 26 #[.slice A (body.length + 4) cap] w (OpenOwn w body ok) := by
  have hrb := hr.head
  have hcmp : ((body ++ be4 (Crc.sum body)) == (body ++ tail)) = ok := by
    rw [← hok, Bool.eq_iff_iff]; simp only [beq_iff_eq, List.append_cancel_left_eq]; exact eq_comm
  have hlen : (body ++ tail).length = body.length + 4 := by rw [List.length_append, ht]
  have h24 := fun W (hr : Rd W A (bv body)) => put_any A body cap W (by omega) (by omega) hr
  have hlen2 : (body ++ be4 (Crc.sum body)).length ≤ 100000000 := by rw [List.length_append]; simp [be4]; omega
  generalize hys : body ++ be4 (Crc.sum body) = ys at *
  generalize hxs : body ++ tail = xs at *
  have h65 := fun W A' c' (h1 : Rd W A' (bv ys)) (h2 : Rd W A (bv xs)) => equal_any A' A ys xs c' cap W (by omega) (by omega) h1 h2
  rw [hcmp, hlen] at h65
  have H24 := Lib.hid h24
  have H65 := Lib.hid h65
  clear h24 h65 hcmp hlen hys hxs hok ht
  cases ok
  · go_enter Try.func26, Try.ntmps26
    go_wp2_with (first
      | (go_at_call 24; refine (H24.out _ hrb).mono ?_; rintro e w1 ⟨A1, c1, rfl, hown, hb1⟩)
      | (go_at_call 65; refine (H65.out _ _ _ (Rd.of_own hown) (hr.below hb1)).mono ?_; rintro e w2 ⟨rfl, n, rfl⟩))
    go_ret2
    exact ⟨below_drewN' hb1 _, (fun h => by cases h), fun _ => rfl⟩
  · go_enter Try.func26, Try.ntmps26
    go_wp2_with (first
      | (go_at_call 24; refine (H24.out _ hrb).mono ?_; rintro e w1 ⟨A1, c1, rfl, hown, hb1⟩)
      | (go_at_call 65; refine (H65.out _ _ _ (Rd.of_own hown) (hr.below hb1)).mono ?_; rintro e w2 ⟨rfl, n, rfl⟩)
      | (go_at_call 66; refine (clone_any A body cap (w1.drewN n) (by omega) ((hrb.below hb1).drewN n)).mono ?_; rintro e w3 ⟨A3, c3, rfl, hown3, hb3⟩))
    have hb13 := below_then (below_drewN' hb1 n) hb1.size hb3
    have HO := Lib.hid (own_mono hown3 hb1.size)
    go_ret2
    exact ⟨hb13, (fun _ => ⟨A3, c3, rfl, HO.out⟩), (fun h => by cases h)⟩

theorem refOpen_short (A : Option Addr) (xs : List UInt8) (cap : Nat) (w : World) (h : xs.length < 4) :
    Calls Try.prog 28 #[.slice A xs.length cap] w fun e w' => e = .returned (.tuple #[.slice none 0 0, .int .i64 10]) ∧ w = w' := by
  go_enter Try.func28, Try.ntmps28
  go_wp2
  go_ret2
  exact ⟨rfl, rfl⟩

/-- The first k of two rows of four are the same. -/
theorem four_step {xs ys : List UInt8} (hx : xs.length = 4) (hy : ys.length = 4) (k : Nat) (hk : k < 4) : xs.take (k + 1) = ys.take (k + 1) ↔ xs.take k = ys.take k ∧ xs[k] = ys[k] := by
  rw [List.take_succ_eq_append_getElem (by omega), List.take_succ_eq_append_getElem (by omega)]
  constructor
  · intro h; have := List.append_inj h (by simp; omega); simpa using this
  · rintro ⟨h1, h2⟩; rw [h1, h2]

theorem refOpen_long (A : Option Addr) (body tail : List UInt8) (cap : Nat) (w : World) (ht : tail.length = 4) (hm : body.length ≤ 1000000) (hc : body.length + 4 ≤ cap) (hr : Rd w A (bv (body ++ tail))) (ok : Bool) (hok : (tail == be4 (Crc.sum body)) = ok) :
    Calls Try.prog 28 #[.slice A (body.length + 4) cap] w (OpenRd w body ok) := by
  have hrb := hr.head
  have h25 := fun W (hr : Rd W A (bv body)) => refPut_any A body cap W (by omega) hr
  have hbe : (be4 (Crc.sum body)).length = 4 := rfl
  have hlen2 : (body ++ be4 (Crc.sum body)).length = body.length + 4 := by rw [List.length_append]; rfl
  rw [hlen2] at h25
  generalize be4 (Crc.sum body) = want at *
  have H25 := Lib.hid h25
  have HB := Lib.hid hbe
  have HT := Lib.hid ht
  have HK := Lib.hid hok
  clear h25 hbe ht hok hlen2
  go_enter Try.func28, Try.ntmps28
  go_wp2_with (go_at_call 25; refine (H25.out _ hrb).mono ?_; rintro e w1 ⟨A1, c1, rfl, hown, hb1⟩)
  have hr1 := hr.below hb1
  have ho1 := Rd.of_own hown
  obtain ⟨A', c', he, hcap, _⟩ := own_slice hown
  injection he with he1 he2 he3
  subst he1 he3
  clear he2 hr hrb
  go_loopw [6] (fun i wr => ∃ k : Nat, k ≤ 4 ∧ i = .int .i64 k ∧ want.take k = tail.take k ∧ ∃ n, wr = w1.drewN n) (fun i _ => 4 - (intOf i).toNat)
  case atStart => exact ⟨0, by omega, rfl, rfl, 0, rfl⟩
  case round =>
    obtain ⟨k, hk, rfl, heq, n, rfl⟩ := hrel
    have HE := Lib.hid heq
    clear heq
    by_cases hlt : k < 4
    · have hkw : k < want.length := by rw [HB.out]; exact hlt
      have hkt : k < tail.length := by rw [HT.out]; exact hlt
      obtain ⟨b, off, rfl, hcc⟩ := hr1.byte (body.length + k) (by rw [List.length_append]; omega)
      obtain ⟨b', off', rfl, hcc'⟩ := ho1.byte (body.length + k) (by rw [List.length_append]; omega)
      rw [List.getElem_append_right (by omega)] at hcc hcc'
      simp only [Nat.add_sub_cancel_left] at hcc hcc'
      have h0 : (0 : Int) ≤ (body.length : Int) + k := by omega
      have h1 : (body.length : Int) + k < (body.length : Int) + 4 := by omega
      have h2 : ((body.length : Int) + k).toNat = body.length + k := by omega
      have h3 : IntKind.i64.wrap ((body.length : Int) + k) = (body.length : Int) + k := IntWalk.i64_in _ (by omega)
      have hn := bytes_ne (a := want[k]) (b := tail[k])
      by_cases hb : want[k] = tail[k]
      · have hb' : (((want[k]).toNat : Int) != ((tail[k]).toNat : Int)) = false := by rw [hn, hb]; simp
        have HS := Lib.hid (take_eq_step HE.out hkw hkt hb)
        clear hn hb hr1 ho1 hown
        go_wp2
        go_quiet (fail)
        go_wp2
        go_roundw
        case rel => exact ⟨k + 1, by omega, by go_num, HS.out, _, rfl⟩
        case measure => simp [intOf]; omega
      · have hb' : (((want[k]).toNat : Int) != ((tail[k]).toNat : Int)) = true := by rw [hn]; simpa using hb
        have hf : ok = false := by
          rw [← HK.out, beq_eq_false_iff_ne]; intro e; subst e; exact hb rfl
        have hbe := below_drewN' hb1 n
        have HB1 := Lib.hid hb1
        clear hn hb hr1 ho1 hown HK hb1
        subst hf
        go_wp2
        go_quiet (fail)
        go_wp2
        go_ret2
        exact ⟨below_drewN' (below_drewN' HB1.out n) _, (fun h => by cases h), fun _ => rfl⟩
    · obtain rfl : k = 4 := by omega
      have hf : ok = true := by
        have h1 : want.take 4 = want := List.take_of_length_le (by rw [HB.out]; omega)
        have h2 : tail.take 4 = tail := List.take_of_length_le (by rw [HT.out]; omega)
        have := HE.out
        rw [h1, h2] at this
        rw [← HK.out, beq_iff_eq]; exact this.symm
      have HO := Lib.hid (Rd.head ho1)
      have HB1 := Lib.hid hb1
      clear hr1 ho1 hown HK hb1
      subst hf
      go_wp2
      go_ret2
      exact ⟨below_drewN' HB1.out n, (fun _ => ⟨_, _, rfl, by omega, HO.out.drewN n⟩), (fun h => by cases h)⟩

/-- A number brought from 0 up to n. -/
def pk (i : Int) (n : Nat) : Nat := ((wrap64 (i.tmod n + n)).tmod n).toNat
theorem pk_bounds (i : Int) (n : Nat) (h1 : 0 < n) (h2 : n ≤ 1000000) : 0 ≤ (wrap64 (i.tmod n + n)).tmod n ∧ (wrap64 (i.tmod n + n)).tmod n < n := by
  have ha : i.tmod n < n := Int.tmod_lt_of_pos i (by omega)
  have hb : -(n : Int) < i.tmod n := by
    have := Int.tmod_lt_of_pos (-i) (b := (n : Int)) (by omega)
    rw [Int.neg_tmod] at this; omega
  have hw : wrap64 (i.tmod n + n) = i.tmod n + n := by
    have := IntKind.wrap_i64 (i.tmod n + n)
    unfold wrap64; omega
  rw [hw]
  generalize i.tmod n = r at *
  rw [Int.tmod_eq_emod_of_nonneg (by omega)]
  exact ⟨Int.emod_nonneg _ (by omega), Int.emod_lt_of_pos _ (by omega)⟩
theorem pk_lt (i : Int) (n : Nat) (h1 : 0 < n) (h2 : n ≤ 1000000) : pk i n < n := by
  have := pk_bounds i n h1 h2; unfold pk; omega
theorem pick_any (i : Int) (n : Nat) (w : World) (h1 : 0 < n) (h2 : n ≤ 1000000) :
    Calls Try.prog 29 #[.int .i64 i, .int .i64 n] w fun e w' => e = .returned (.int .i64 (pk i n : Nat)) ∧ w = w' := by
  have hp : (0 : Int) < n := by omega
  have hb := pk_bounds i n h1 h2
  have HV : Hid ((wrap64 (i.tmod n + n)).tmod n = ((pk i n : Nat) : Int)) := by show _ = _; unfold pk; omega
  clear hb
  go_enter Try.func29, Try.ntmps29
  go_wp2
  go_ret
  exact ⟨ret_int HV.out, rfl⟩

theorem spoil_any (A : Option Addr) (xs : List UInt8) (c B : Nat) (w : World) (hm : xs.length ≤ 1000000) (hown : w.ownsRow B 5 1 (.slice A xs.length c) xs.length (bv xs)) (hB : B ≤ w.heap.size) :
    Calls Try.prog 27 #[.slice A xs.length c] w fun e w' => e = .returned (.tuple #[]) ∧ Below B w w' := by
  rcases Nat.eq_zero_or_pos xs.length with h0 | h0
  · rw [h0]
    clear hown h0
    go_enter Try.func27, Try.ntmps27
    go_wp2
    go_loop [2] (fun i => i = .int .i64 0) (fun _ => 0)
    case atStart => rfl
    case round =>
      subst hrel
      go_wp2
      go_end0
      exact ⟨rfl, Below.refl _ _⟩
  · obtain ⟨g, cap, hv, hgB, hgl⟩ := hown.form h0
    injection hv with hA _ hcc
    subst hA hcc
    go_enter Try.func27, Try.ntmps27
    go_wp2
    go_loopw [2] (fun i wr => ∃ k : Nat, ∃ ys : List Value, k ≤ xs.length ∧ i = .int .i64 k ∧ ys.length = xs.length ∧ wr.ownsRow B 5 1 (.slice (some ⟨g, 0, none⟩) xs.length c) xs.length ys ∧ Below B w wr) (fun i _ => xs.length - (intOf i).toNat)
    case atStart => exact ⟨0, bv xs, by omega, rfl, by simp, hown, Below.refl _ _⟩
    case round =>
      clear hown hgl
      obtain ⟨k, ys, hk, rfl, hl, hown, hb⟩ := hrel
      by_cases hlt : k < xs.length
      · have hc0 : wr.cell? ⟨g, k, none⟩ = some (ys[k]'(by omega)) := by
          have := hown.cellAt k (by omega); rw [this, List.getElem?_eq_getElem]
        have hf0 := hown.frozenAt k
        have hst := hown.stored k (.int .u8 165)
        have H1 := Lib.hid hst.1
        have H2 := Lib.hid (hb.setCell (p := ⟨g, k, none⟩) hgB (.int .u8 165))
        have H3 := Lib.hid hl
        generalize (ys[k]'(by omega)) = u at *
        clear hst hown hb hl
        go_wp2
        go_roundw
        case rel => exact ⟨k + 1, _, by omega, by go_num, by rw [List.length_set]; exact H3.out, H1.out, H2.out⟩
        case measure => simp [intOf]; omega
      · have H2 := Lib.hid hb
        clear hown hb hl
        go_wp2
        go_end0
        exact ⟨rfl, H2.out⟩

theorem sum0 : Crc.sum [] = 0 := by decide +kernel
theorem sum9 : Crc.sum [49, 50, 51, 52, 53, 54, 55, 56, 57] = 3421780262 := by decide +kernel
theorem sum1 : Crc.sum [0] = 3523407757 := by decide +kernel
/-- A new row of cells reads as it was laid, whatever of it is marked. -/
theorem Rd.newF (w : World) (cs : Array Value) (t : TypeId) (fr : Nat × Nat) : Rd (w.alloc (.cells cs t fr)) (some ⟨w.heap.size, 0, none⟩) cs.toList := by
  intro j hj
  refine ⟨w.heap.size, 0, rfl, ?_⟩
  rw [Nat.zero_add, cell_of_row _ _ j cs t fr (heap_alloc_new w _)]
  simp at hj; simp [hj]
theorem works_any (w : World) : Calls Try.prog 17 #[] w fun e w' => e = .returned (.bool true) ∧ Below w.heap.size w w' := by
  have h0 : ((Crc.sum [] : Nat) : Int) = 0 := by rw [sum0]; rfl
  have h9 : ((Crc.sum [49, 50, 51, 52, 53, 54, 55, 56, 57] : Nat) : Int) = 3421780262 := by rw [sum9]; rfl
  have h1 : ((Crc.sum [0] : Nat) : Int) = 3523407757 := by rw [sum1]; rfl
  have hcv := fun (w : World) (C : Array Value) (n c : Nat) => Lib.run_convert_bytes_const (P := Try.prog) w 23 5 C n c Try.underlying23 Try.underlying5
  go_enter Try.func17, Try.ntmps17
  go_wp2_with (go_at_call 19; refine (sum_any none [] 0 w (by simp) (Rd.nil _ _)).mono ?_; rintro e w1 ⟨rfl, hb1⟩)
  have hr9 : Rd (w1.alloc (.cells #[.int .u8 49, .int .u8 50, .int .u8 51, .int .u8 52, .int .u8 53, .int .u8 54, .int .u8 55, .int .u8 56, .int .u8 57] 5 (9, 10))) (some ⟨w1.heap.size, 0, none⟩) (bv [49, 50, 51, 52, 53, 54, 55, 56, 57]) := Rd.newF w1 _ 5 _
  refine (sum_any (some ⟨w1.heap.size, 0, none⟩) [49, 50, 51, 52, 53, 54, 55, 56, 57] 9 _ (by simp) hr9).mono ?_
  rintro e w2 ⟨rfl, hb2⟩
  have hb2 := below_then (hb1.alloc hb1.size _) (by have := hb1.size; simp; omega) hb2
  have HB2 := Lib.hid hb2
  clear hb1 hb2 hr9
  go_wp2_with fail
  have hr1 : Rd (w2.alloc (.cells #[.int .u8 0] 5)) (some ⟨w2.heap.size, 0, none⟩) (bv [0]) := Rd.new w2 _ 5
  refine (sum_any (some ⟨w2.heap.size, 0, none⟩) [0] 1 _ (by simp) hr1).mono ?_
  rintro e w3 ⟨rfl, hb3⟩
  have HB3 := Lib.hid (below_then (HB2.out.alloc HB2.out.size _) (by have := HB2.out.size; simp; omega) hb3)
  clear hr1 hb3
  go_wp2
  go_ret
  exact ⟨rfl, HB3.out⟩
end Go.Proofs.Ytnbnghihmophpaa
