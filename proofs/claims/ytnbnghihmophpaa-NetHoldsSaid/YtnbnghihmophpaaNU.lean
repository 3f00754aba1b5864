/- The net, seen without addresses: Take, Tick, Now, Flying, Counts, New. -/
import Derived.Test.YtnbnghihmophpaaNT
import Derived.Test.YtnbnghihmophpaaNF
namespace Go.Proofs.Ytnbnghihmophpaa
open Go.RowKit
set_option maxRecDepth 20000
set_option maxHeartbeats 4000000
set_option linter.unusedVariables false
set_option linter.unusedSimpArgs false

theorem sorted_of_suffix {l : List Dg} (p : Dg → Bool) (h : Sorted l) : Sorted (l.dropWhile p) := by
  have hq : l.Pairwise (fun a b : Dg => a.due ≤ b.due) := List.pairwise_iff_getElem.2 fun i j hi hj hij => h i j hi hj (Nat.le_of_lt hij)
  have hq2 := hq.sublist (List.dropWhile_sublist p)
  intro i j hi hj hij
  rcases Nat.lt_or_eq_of_le hij with hlt | rfl
  · exact List.pairwise_iff_getElem.1 hq2 i j hi hj hlt
  · exact Nat.le_refl _
theorem er_come0 (s : NS) : er (come0 s) = (er s.u0).takeWhile (fun y => y.1 ≤ s.now) := er_come { s with u1 := s.u0 }
theorem er_left0 (s : NS) : er (left0 s) = (er s.u0).dropWhile (fun y => y.1 ≤ s.now) := er_left { s with u1 := s.u0 }
def TakeR (base b : Nat) (a : AS) (sd : Nat) (F : Value) (w : World) (e : Ending) (w' : World) : Prop :=
  ∃ (os : List (Value × List UInt8)) (A : Option Addr) (c : Nat), e = .returned (.slice A os.length c) ∧
      w'.ownsRow w.heap.size 23 1 (.slice A os.length c) os.length (os.map (·.1)) ∧ (∀ p ∈ os, OutAt w.heap.size w' p) ∧ os.map (·.2) = a.got sd ∧ NetR base b (a.take sd) F w' ∧ Fr base w w'
theorem take_abs (base b : Nat) (a : AS) (F : Value) (sd : Nat) (hsd : sd < 2) (w : World) (h : NetR base b a F w) (ha : a.ok) :
    Calls Try.prog 54 #[.pointer (some ⟨b, 0, none⟩), .int .i64 sd] w (TakeR base b a sd F w) := by
  obtain ⟨s, ⟨v0, v1, hN⟩, rfl, so0, so1⟩ := h
  have hl0 : s.u0.length ≤ 999998 := by have := ha.n0; simp only [ofNS, er, List.length_map] at this; exact this
  have hl1 : s.u1.length ≤ 999998 := by have := ha.n1; simp only [ofNS, er, List.length_map] at this; exact this
  have hb0 : ∀ d ∈ s.u0, 4 ≤ d.b.length ∧ d.b.length ≤ 1000000 := fun d hd => ha.b0 (d.due, d.b) (List.mem_map.2 ⟨d, hd, rfl⟩)
  have hb1 : ∀ d ∈ s.u1, 4 ≤ d.b.length ∧ d.b.length ≤ 1000000 := fun d hd => ha.b1 (d.due, d.b) (List.mem_map.2 ⟨d, hd, rfl⟩)
  rcases (by omega : sd = 0 ∨ sd = 1) with rfl | rfl
  · refine (take0_any base b s F v0 v1 w hN (by omega) ha.nw ha.ta ha.ba hb0).mono ?_
    rintro e w' ⟨os, v1', A, c, he, ho, hoa, hm, hn, hf⟩
    refine ⟨os, A, c, he, ho, hoa, ?_, ⟨_, ⟨_, _, hn⟩, ?_, sorted_of_suffix _ so0, so1⟩, hf⟩
    · rw [hm, come_open, er_come0]; rfl
    · unfold ofNS AS.take AS.come AS.setl AS.l
      simp only [if_true, tkT_er, tkB_er, er_left0, er_come0]
  · refine (take1_any base b s F v0 v1 w hN (by omega) ha.nw ha.ta ha.ba hb1).mono ?_
    rintro e w' ⟨os, v1', A, c, he, ho, hoa, hm, hn, hf⟩
    refine ⟨os, A, c, he, ho, hoa, ?_, ⟨_, ⟨_, _, hn⟩, ?_, so0, sorted_of_suffix _ so1⟩, hf⟩
    · rw [hm, come_open, er_come]; rfl
    · unfold ofNS AS.take AS.come AS.setl AS.l
      simp only [Nat.one_ne_zero, if_false, tkT_er, tkB_er, er_left, er_come]
theorem tick_abs (base b : Nat) (a : AS) (F : Value) (w : World) (h : NetR base b a F w) (ha : a.ok) :
    Calls Try.prog 52 #[.pointer (some ⟨b, 0, none⟩)] w fun e w' => e = .returned (.int .u64 a.tick.now) ∧ NetR base b a.tick F w' ∧ Fr base w w' := by
  obtain ⟨s, ⟨v0, v1, hN⟩, rfl, so0, so1⟩ := h
  refine (tick_any base b s F v0 v1 w hN ha.nw).mono ?_
  rintro e w' ⟨he, hn, hf⟩
  exact ⟨he, ⟨_, ⟨_, _, hn⟩, rfl, so0, so1⟩, hf⟩
theorem counts_abs (base b : Nat) (a : AS) (F : Value) (w : World) (h : NetR base b a F w) :
    Calls Try.prog 61 #[.pointer (some ⟨b, 0, none⟩)] w fun e w' => e = .returned (.agg #[.int .u64 a.sent, .int .u64 a.lost, .int .u64 a.taken, .int .u64 a.bad]) ∧ Below w.heap.size w w' := by
  obtain ⟨s, ⟨v0, v1, hN⟩, rfl, so0, so1⟩ := h
  exact counts_any base b s F v0 v1 w hN
theorem now_abs (base b : Nat) (a : AS) (F : Value) (w : World) (h : NetR base b a F w) :
    Calls Try.prog 58 #[.pointer (some ⟨b, 0, none⟩)] w fun e w' => e = .returned (.int .u64 a.now) ∧ w = w' := by
  obtain ⟨s, ⟨v0, v1, hN⟩, rfl, so0, so1⟩ := h
  obtain ⟨-, -, c2, -, -⟩ := hN.c0
  have HH := Lib.hid (show (ofNS s).now = s.now from rfl)
  clear hN so0 so1
  go_enter Try.func58, Try.ntmps58
  go_wp2
  go_ret
  exact ⟨rfl, rfl⟩
theorem flying_odd (b : Nat) (k : Int) (hk : k ≠ 0 ∧ k ≠ 1) (w : World) : Calls Try.prog 59 #[.pointer (some ⟨b, 0, none⟩), .int .i64 k] w fun e w' => e = .returned (.int .i64 0) ∧ w = w' := by
  have HR := Lib.hid (right_no k hk)
  clear hk
  go_enter Try.func59, Try.ntmps59
  go_wp2_with (go_at_call 85; refine (HR.out _).mono ?_; rintro e wz ⟨rfl, rfl⟩)
  go_ret
  exact ⟨rfl, rfl⟩
theorem flying_abs (base b : Nat) (a : AS) (F : Value) (sd : Nat) (hsd : sd < 2) (w : World) (h : NetR base b a F w) :
    Calls Try.prog 59 #[.pointer (some ⟨b, 0, none⟩), .int .i64 sd] w fun e w' => e = .returned (.int .i64 ((a.l sd).length : Nat)) ∧ w = w' := by
  obtain ⟨s, ⟨v0, v1, hN⟩, rfl, so0, so1⟩ := h
  obtain ⟨-, -, -, c3, c4⟩ := hN.c0
  obtain ⟨A0, n0, hv0, _, _⟩ := own_slice hN.r0.1
  obtain ⟨A1, n1, hv1, _, _⟩ := own_slice hN.r1.1
  subst hv0 hv1
  have H0 := Lib.hid (show ((ofNS s).l 0).length = s.u0.length by simp [ofNS, AS.l, er])
  have H1 := Lib.hid (show ((ofNS s).l 1).length = s.u1.length by simp [ofNS, AS.l, er])
  clear hN so0 so1
  rcases (by omega : sd = 0 ∨ sd = 1) with rfl | rfl
  · go_enter Try.func59, Try.ntmps59
    go_wp2_with (go_at_call 85; refine (right_yes 0 (by omega) _).mono ?_; rintro e wz ⟨rfl, rfl⟩)
    go_ret
    exact ⟨by rw [H0.out]; rfl, rfl⟩
  · go_enter Try.func59, Try.ntmps59
    go_wp2_with (go_at_call 85; refine (right_yes 1 (by omega) _).mono ?_; rintro e wz ⟨rfl, rfl⟩)
    go_ret
    exact ⟨by rw [H1.out]; rfl, rfl⟩
theorem send_long (b : Nat) (sd : Nat) (hsd : sd < 2) (A : Option Addr) (n c : Nat) (hn : 2000 < n) (w : World) : Calls Try.prog 57 #[.pointer (some ⟨b, 0, none⟩), .int .i64 sd, .slice A n c] w fun e w' => e = .returned (.int .i64 3) ∧ w = w' := by
  have hd : decide ((2000 : Int) < n) = true := by simp; omega
  go_enter Try.func57, Try.ntmps57
  go_wp2_with (go_at_call 85; refine (right_yes sd hsd _).mono ?_; rintro e wz ⟨rfl, rfl⟩)
  go_ret
  exact ⟨rfl, rfl⟩
def newAS (fs : List Fate) : AS := ⟨fs, 0, 0, [], [], 0, 0, 0, 0⟩
theorem new_abs (A : Option Addr) (c : Nat) (fs : List Fate) (w : World) (hn : fs.length ≤ 1000000) (hr : Rd w A (fcells fs)) (hA : A = none → fs.length = 0 ∧ c = 0) :
    Calls Try.prog 49 #[.slice A fs.length c] w fun e w' => ∃ b F, e = .returned (.pointer (some ⟨b, 0, none⟩)) ∧ NetR w.heap.size b (newAS fs) F w' ∧ Below w.heap.size w w' := by
  refine (new_any A c fs w hn hr hA).mono ?_
  rintro e w' ⟨b, F, he, hN, hB⟩
  exact ⟨b, F, he, ⟨_, ⟨_, _, hN⟩, rfl, fun i j hi => absurd hi (by simp [newNet]), fun i j hi => absurd hi (by simp [newNet])⟩, hB⟩

/-! ### What stays so -/
structure AS.inv (a : AS) (n : Nat) : Prop where
  fl : a.fts.length ≤ 1000000
  fo : ∀ f ∈ a.fts, f.ok
  nx : a.fts.length = 0 ∨ a.next < a.fts.length
  nw : a.now ≤ 18446744073709551615
  se : a.sent ≤ 18446744073709551615
  lo : a.lost ≤ 18446744073709551615
  ta : a.taken ≤ 18446744073709551615
  ba : a.bad ≤ 18446744073709551615
  n0 : a.l0.length ≤ 2 * n
  n1 : a.l1.length ≤ 2 * n
  b0 : ∀ p ∈ a.l0, 4 ≤ p.2.length ∧ p.2.length ≤ 1000000
  b1 : ∀ p ∈ a.l1, 4 ≤ p.2.length ∧ p.2.length ≤ 1000000
theorem AS.inv.ok {a : AS} {n : Nat} (h : a.inv n) (hn : n ≤ 1000) : a.ok :=
  ⟨h.fl, h.fo, h.nx, h.nw, h.se, h.lo, h.ta, h.ba, by have := h.n0; omega, by have := h.n1; omega, h.b0, h.b1⟩
theorem AS.inv.mono {a : AS} {n m : Nat} (h : a.inv n) (hm : n ≤ m) : a.inv m := ⟨h.fl, h.fo, h.nx, h.nw, h.se, h.lo, h.ta, h.ba, by have := h.n0; omega, by have := h.n1; omega, h.b0, h.b1⟩
theorem AS.inv.new (fs : List Fate) (h : fs.length ≤ 1000000) (ho : ∀ f ∈ fs, f.ok) : (newAS fs).inv 0 :=
  ⟨h, ho, by show fs.length = 0 ∨ 0 < fs.length; omega, by simp [newAS], by simp [newAS], by simp [newAS], by simp [newAS], by simp [newAS], by simp [newAS], by simp [newAS], fun p hp => by simp [newAS] at hp, fun p hp => by simp [newAS] at hp⟩
theorem insE_len (l : Fl) (x : Nat × List UInt8) : (insE l x).length = l.length + 1 := by
  unfold insE
  have := congrArg List.length (List.takeWhile_append_dropWhile (p := fun y : Nat × List UInt8 => decide (y.1 ≤ x.1)) (l := l))
  simp only [List.length_append, List.length_cons] at this ⊢; omega
theorem insE_mem {l : Fl} {x p : Nat × List UInt8} (h : p ∈ insE l x) : p = x ∨ p ∈ l := by
  unfold insE at h
  rcases List.mem_append.1 h with h | h
  · exact .inr (List.takeWhile_subset _ h)
  · rcases List.mem_cons.1 h with h | h
    · exact .inl h
    · exact .inr (List.dropWhile_subset _ h)
/-- As inv, with room for m datagrams more. -/
structure AS.inv2 (a : AS) (m : Nat) : Prop where
  fl : a.fts.length ≤ 1000000
  fo : ∀ f ∈ a.fts, f.ok
  nx : a.fts.length = 0 ∨ a.next < a.fts.length
  nw : a.now ≤ 18446744073709551615
  se : a.sent ≤ 18446744073709551615
  lo : a.lost ≤ 18446744073709551615
  ta : a.taken ≤ 18446744073709551615
  ba : a.bad ≤ 18446744073709551615
  n0 : a.l0.length ≤ m
  n1 : a.l1.length ≤ m
  b0 : ∀ p ∈ a.l0, 4 ≤ p.2.length ∧ p.2.length ≤ 1000000
  b1 : ∀ p ∈ a.l1, 4 ≤ p.2.length ∧ p.2.length ≤ 1000000
theorem AS.inv2.put {a : AS} {m : Nat} (h : a.inv2 m) (k : Nat) (x : Nat × List UInt8) (hx : 4 ≤ x.2.length ∧ x.2.length ≤ 1000000) : (a.put k x).inv2 (m + 1) := by
  have h0 := h.n0
  have h1 := h.n1
  unfold AS.put AS.setl AS.l
  by_cases hk : k = 0
  · simp only [hk, if_true]
    exact ⟨h.fl, h.fo, h.nx, h.nw, h.se, h.lo, h.ta, h.ba, by rw [insE_len]; omega, by simp only; omega, fun p hp => by
      rcases insE_mem hp with rfl | hp
      · exact hx
      · exact h.b0 p hp, h.b1⟩
  · simp only [hk, if_false]
    exact ⟨h.fl, h.fo, h.nx, h.nw, h.se, h.lo, h.ta, h.ba, by simp only; omega, by rw [insE_len]; omega, h.b0, fun p hp => by
      rcases insE_mem hp with rfl | hp
      · exact hx
      · exact h.b1 p hp⟩
theorem AS.inv2.up {a : AS} {m m' : Nat} (h : a.inv2 m) (hm : m ≤ m') : a.inv2 m' := ⟨h.fl, h.fo, h.nx, h.nw, h.se, h.lo, h.ta, h.ba, by have := h.n0; omega, by have := h.n1; omega, h.b0, h.b1⟩
theorem AS.step_inv {a : AS} {n : Nat} (h : a.inv n) : { a.step with sent := sat a.sent }.inv2 (2 * n) := by
  unfold AS.step
  by_cases h0 : a.fts.length = 0
  · simp only [h0, if_true]
    exact ⟨h.fl, h.fo, h.nx, h.nw, sat_le h.se, h.lo, h.ta, h.ba, h.n0, h.n1, h.b0, h.b1⟩
  · simp only [h0, if_false]
    exact ⟨h.fl, h.fo, .inr (Nat.mod_lt _ (by omega)), h.nw, sat_le h.se, h.lo, h.ta, h.ba, h.n0, h.n1, h.b0, h.b1⟩
theorem AS.inv.send {a : AS} {n : Nat} (h : a.inv n) (k : Nat) (xs : List UInt8) (hx : xs.length ≤ 2000) : (a.send k xs).inv (n + 1) := by
  have hs := AS.step_inv h
  have hyl : (xs ++ be4 (Crc.sum xs)).length = xs.length + 4 := by simp [be4]
  have key : ∀ {c : AS}, c.inv2 (2 * n + 2) → c.inv (n + 1) := fun h => ⟨h.fl, h.fo, h.nx, h.nw, h.se, h.lo, h.ta, h.ba, by have := h.n0; omega, by have := h.n1; omega, h.b0, h.b1⟩
  apply key
  unfold AS.send AS.does
  split
  · have h2 := hs.up (m' := 2 * n + 2) (by omega)
    exact ⟨h2.fl, h2.fo, h2.nx, h2.nw, h2.se, sat_le h2.lo, h2.ta, h2.ba, h2.n0, h2.n1, h2.b0, h2.b1⟩
  · split
    · exact (hs.put k _ (by simp only; omega)).put k _ (by simp only; omega)
    · split
      · exact (hs.put k _ (by simp only; omega)).up (by omega)
      · split
        · exact (hs.put k _ (by simp only [spoil, List.length_set]; omega)).up (by omega)
        · exact (hs.put k _ (by simp only; omega)).up (by omega)
theorem AS.inv.tick {a : AS} {n : Nat} (h : a.inv n) : a.tick.inv n := ⟨h.fl, h.fo, h.nx, sat_le h.nw, h.se, h.lo, h.ta, h.ba, h.n0, h.n1, h.b0, h.b1⟩
theorem tkE_le {t : Nat} (l : Fl) (h : t ≤ 18446744073709551615) : tkE t l ≤ 18446744073709551615 := by
  unfold tkE
  induction l generalizing t with
  | nil => exact h
  | cons p l ih => simp only [List.foldl_cons]; split; exact ih (sat_le h); exact ih h
theorem bdE_le {t : Nat} (l : Fl) (h : t ≤ 18446744073709551615) : bdE t l ≤ 18446744073709551615 := by
  unfold bdE
  induction l generalizing t with
  | nil => exact h
  | cons p l ih => simp only [List.foldl_cons]; split; exact ih h; exact ih (sat_le h)
theorem AS.inv.take {a : AS} {n : Nat} (h : a.inv n) (k : Nat) : (a.take k).inv n := by
  have t0 := tkE_le (a.come k) h.ta
  have t1 := bdE_le (a.come k) h.ba
  have hsl : ∀ l : Fl, ∀ q : Nat × List UInt8 → Bool, (l.dropWhile q).length ≤ l.length := fun l q => (List.dropWhile_sublist q).length_le
  have h0 := h.n0
  have h1 := h.n1
  unfold AS.take
  by_cases hk : k = 0
  · subst hk
    have := hsl a.l0 (fun y => decide (y.1 ≤ a.now))
    exact ⟨h.fl, h.fo, h.nx, h.nw, h.se, h.lo, t0, t1, by show (List.dropWhile _ a.l0).length ≤ _; omega, h1, fun p hp => h.b0 p (List.dropWhile_subset _ hp), h.b1⟩
  · have := hsl a.l1 (fun y => decide (y.1 ≤ a.now))
    have e : ∀ l, a.setl k l = { a with l1 := l } := fun l => by unfold AS.setl; rw [if_neg hk]
    have e2 : a.l k = a.l1 := by unfold AS.l; rw [if_neg hk]
    simp only [e, e2]
    exact ⟨h.fl, h.fo, h.nx, h.nw, h.se, h.lo, t0, t1, h0, by simp only; omega, h.b0, fun p hp => h.b1 p (List.dropWhile_subset _ hp)⟩
end Go.Proofs.Ytnbnghihmophpaa
