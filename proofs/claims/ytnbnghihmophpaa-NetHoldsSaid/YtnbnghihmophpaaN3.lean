/- slices.Insert at datagrams, all ways; the place by its time. -/
import Derived.Test.YtnbnghihmophpaaN2
namespace Go.Proofs.Ytnbnghihmophpaa
open Go.RowKit
set_option maxRecDepth 20000
set_option maxHeartbeats 1000000
set_option linter.unusedVariables false
set_option linter.unusedSimpArgs false

theorem insert_any (base n at_ nb : Nat) (v : Value) (xs : List Value) (x y : Value) (w : World) (hn : n ≤ 1000000) (hat : at_ ≤ n) (hown : w.ownsRow base 141 2 v n xs) (hbase : base ≤ w.heap.size)
    (hx1 : ∀ u ∈ xs, u.oneCell' = true) (hx : x.oneCell' = true) (hy : y.oneCell' = true) (hnb : Blk w nb 141 #[x, y]) (hne : v.ownBlock ≠ some nb) :
    Calls Try.prog 122 #[v, .int .i64 at_, .slice (some ⟨nb, 0, none⟩) 1 1] w fun e w' => ∃ v', e = .returned v' ∧ w'.ownsRow base 141 2 v' (n + 1) (xs.take (2 * at_) ++ [x, y] ++ xs.drop (2 * at_)) ∧
      w.grownBy w' v.ownBlock ∧ (v'.ownBlock = v.ownBlock ∨ v'.ownBlock = some w.heap.size) := by
  have hxl := hown.1
  rcases Nat.lt_or_ge at_ n with hlt | hge
  · rcases hown.2 with ⟨rfl, rfl⟩ | ⟨g, cap, cur, rfl, hb, hg, hnc, hcm, hsz, htk⟩
    · omega
    · subst htk
      rcases Nat.lt_or_ge cap (n + 1) with hr | hr
      · refine (insert_grow base n at_ g cap nb cur x y w hn hlt hr hnc hg hsz hx1 hx hy hnb).mono ?_
        rintro e w' ⟨G, cur', rfl, h1, h2, h3, h4, h5, h6⟩
        refine ⟨_, rfl, ⟨by simp at hxl ⊢; omega, .inr ⟨_, G, cur', rfl, hbase, h3, h1, h2, h4, h5⟩⟩, ⟨h6.os, h6.tape, h6.output, h6.size, fun k hk _ => h6.block k hk⟩, .inr rfl⟩
      · refine (insert_shift base n at_ g cap nb cur x y w hn hlt hr hcm hg hsz hx1 hx hy hnb (fun e => hne (by rw [e]; rfl))).mono ?_
        rintro e w' ⟨rfl, cur', h3, h4, h5, h6⟩
        exact ⟨_, rfl, ⟨by simp at hxl ⊢; omega, .inr ⟨_, cap, cur', rfl, hb, h3, hr, hcm, h4, h5⟩⟩, h6, .inl rfl⟩
  · obtain rfl : at_ = n := by omega
    rw [show 2 * at_ = xs.length by omega, List.take_length, List.drop_length, List.append_nil]
    exact insert_end base at_ v xs nb x y w hn hown hbase hx hy hnb

theorem isNaN_any (a : Nat) (w : World) : Calls Try.prog 123 #[.int .u64 a] w fun e w' => e = .returned (.bool false) ∧ w = w' := by
  go_enter Try.func123, Try.ntmps123
  go_wp2
  go_ret
  exact ⟨rfl, rfl⟩
theorem compare_gt (a b : Nat) (w : World) (h : b < a) : Calls Try.prog 121 #[.int .u64 a, .int .u64 b] w fun e w' => e = .returned (.int .i64 1) ∧ w = w' := by
  have h1 : ¬ a < b := by omega
  go_enter Try.func121, Try.ntmps121
  go_wp2_with (go_at_call 123; refine (isNaN_any _ _).mono ?_; rintro e w1 ⟨rfl, rfl⟩)
  go_ret
  exact ⟨rfl, rfl⟩

theorem puts1_any (d due : Nat) (s : Value) (hs : s.oneCell' = true) (w : World) : Calls Try.prog 120 #[.agg #[.int .u64 d, s], .int .u64 due] w fun e w' => e = .returned (.int .i64 (if d ≤ due then -1 else 1)) ∧ Below w.heap.size w w' := by
  by_cases h : d ≤ due
  · rw [if_pos h]
    go_enter Try.func120, Try.ntmps120
    go_wp2
    go_ret
    exact ⟨rfl, (Below.refl _ w).alloc (Nat.le_refl _) _⟩
  · rw [if_neg h]
    have hc := fun W => compare_gt d due W (by omega)
    go_enter Try.func120, Try.ntmps120
    go_wp2_with (go_at_call 121; refine (hc _).mono ?_; rintro e w1 ⟨rfl, rfl⟩)
    go_ret
    exact ⟨rfl, (Below.refl _ w).alloc (Nat.le_refl _) _⟩

theorem dat_cell {w : World} {A : Option Addr} {ds : List Dg} (h : Rd w A (dcells ds)) (k : Nat) (hk : k < ds.length) : ∃ b off, A = some ⟨b, off, none⟩ ∧ w.cell? ⟨b, off + k * 2, none⟩ = some (.int .u64 ds[k].due) ∧ w.cell? ⟨b, off + k * 2 + 1, none⟩ = some ds[k].at_ := by
  have hl := dcells_length ds
  obtain ⟨b, off, rfl, h1⟩ := h (2 * k) (by omega)
  obtain ⟨b', off', he, h2⟩ := h (2 * k + 1) (by omega)
  injection he with he; injection he with e1 e2; subst e1; subst e2
  have hg := dcells_get k hk
  refine ⟨b, off, rfl, ?_, ?_⟩
  · rw [show off + k * 2 = off + 2 * k by omega, h1, ← List.getElem?_eq_getElem, hg.1]
  · rw [show off + k * 2 + 1 = off + (2 * k + 1) by omega, h2, ← List.getElem?_eq_getElem, hg.2]

def Place (ds : List Dg) (due n : Nat) (e : Ending) : Prop := ∃ i b, i ≤ n ∧ e = .returned (.tuple #[.int .i64 i, .bool b]) ∧ (∀ k (h : k < ds.length), k < i → ds[k].due ≤ due) ∧ (∀ k (h : k < ds.length), i ≤ k → due < ds[k].due)

theorem search_any (A : Option Addr) (n c due : Nat) (ds : List Dg) (w : World) (hl : ds.length = n) (hn : n ≤ 1000000) (hr : Rd w A (dcells ds)) (h1 : ∀ d ∈ ds, d.at_.oneCell' = true)
    (hs : ∀ i j (hi : i < ds.length) (hj : j < ds.length), i ≤ j → ds[i].due ≤ ds[j].due) :
    Calls Try.prog 119 #[.slice A n c, .int .u64 due, .func (.func 120) #[] #[]] w fun e w' => Place ds due n e ∧ Below w.heap.size w w' := by
  have HP := fun e => Lib.hid (Iff.refl (Place ds due n e))
  go_enter Try.func119, Try.ntmps119
  go_wp2
  go_loopw [9, 10, 11] (fun iv jv mv wr => ∃ i j : Nat, i ≤ j ∧ j ≤ n ∧ iv = .int .i64 i ∧ jv = .int .i64 j ∧ Hid (∀ k (h : k < ds.length), k < i → ds[k].due ≤ due) ∧ Hid (∀ k (h : k < ds.length), j ≤ k → due < ds[k].due) ∧ Hid (Below w.heap.size w wr)) (fun iv jv _ _ => (intOf jv).toNat - (intOf iv).toNat)
  case atStart => exact ⟨0, n, by omega, by omega, rfl, rfl, fun k h hk => by omega, fun k h hk => by omega, Below.refl _ _⟩
  case round =>
    obtain ⟨i, j, hij, hjn, rfl, rfl, HA, HB, HBL⟩ := hrel
    by_cases hlt : i < j
    · obtain ⟨mm, hmm⟩ : ∃ mm, mm = (i + j) / 2 := ⟨_, rfl⟩
      have hm1 : i ≤ mm := by omega
      have hm2 : mm < j := by omega
      have hml : mm < ds.length := by omega
      obtain ⟨b, off, rfl, hc1, hc2⟩ := dat_cell (hr.below (HBL.out)) mm hml
      have hone := h1 ds[mm] (List.getElem_mem _)
      have HG1 := Lib.hid (fun k (hk : k < ds.length) (h : k ≤ mm) => hs k mm hk hml h)
      have HG2 := Lib.hid (fun k (hk : k < ds.length) (h : mm ≤ k) => hs mm k hml hk h)
      generalize ds[mm].at_ = sv at *
      generalize ds[mm].due = dd at *
      have HP := Lib.hid (puts1_any dd due sv hone)
      have e1 : (i + j) / 2 = mm := hmm.symm
      have e2 : ((i : Int) + j) / 2 = mm := by omega
      have hi0 : (0 : Int) ≤ mm := by omega
      have hi1 : (mm : Int) < n := by omega
      rw [← e1] at hc1 hc2
      have E1 := Lib.hid e1
      have E2 := Lib.hid e2
      clear hmm e1 e2 hs h1
      by_cases hd : dd ≤ due
      · have HPV : Hid ((if dd ≤ due then (-1 : Int) else 1) = -1) := if_pos hd
        go_wp2_with (first | (go_at_call 120; refine (HP.out _).mono ?_; rw [HPV.out]; rintro e w1 ⟨rfl, hb1⟩))
        go_roundw
        case rel => exact ⟨mm + 1, j, by omega, by omega, by have := E1.out; have := E2.out; go_num, rfl, fun k h hk => Nat.le_trans (HG1.out k h (by omega)) hd, HB, below_then HBL.out HBL.out.size hb1⟩
        case measure => simp [intOf]; omega
      · have HPV : Hid ((if dd ≤ due then (-1 : Int) else 1) = 1) := if_neg hd
        go_wp2_with (first | (go_at_call 120; refine (HP.out _).mono ?_; rw [HPV.out]; rintro e w1 ⟨rfl, hb1⟩))
        go_roundw
        case rel => exact ⟨i, mm, by omega, by omega, rfl, by have := E1.out; have := E2.out; go_num, HA, fun k h hk => Nat.lt_of_lt_of_le (by omega) (HG2.out k h hk), below_then HBL.out HBL.out.size hb1⟩
        case measure => simp [intOf]; omega
    · obtain rfl : i = j := by omega
      by_cases hin : i < n
      · obtain ⟨b, off, rfl, hc1, hc2⟩ := dat_cell (hr.below (HBL.out)) i (by omega)
        have hone := h1 ds[i] (List.getElem_mem _)
        generalize ds[i].at_ = sv at *
        generalize ds[i].due = dd at *
        have HP := Lib.hid (puts1_any dd due sv hone)
        have hi0 : (0 : Int) ≤ i := by omega
        have hi1 : (i : Int) < n := by omega
        clear hs h1
        go_wp2_with (first | (go_at_call 120; refine (HP.out _).mono ?_; rintro e w1 ⟨rfl, hb1⟩))
        all_goals (go_ret2; exact ⟨⟨i, _, hjn, rfl, HA.out, HB.out⟩, below_then HBL.out HBL.out.size hb1⟩)
      · go_wp2
        go_ret2
        exact ⟨⟨i, _, hjn, rfl, HA.out, HB.out⟩, HBL.out⟩
end Go.Proofs.Ytnbnghihmophpaa
