/- The net, seen without addresses: what each call does. -/
import Derived.Test.YtnbnghihmophpaaNQ
import Derived.Test.YtnbnghihmophpaaNR
import Derived.Test.YtnbnghihmophpaaNH
import Derived.Test.YtnbnghihmophpaaNB
namespace Go.Proofs.Ytnbnghihmophpaa
open Go.RowKit
set_option maxRecDepth 20000
set_option maxHeartbeats 4000000
set_option linter.unusedVariables false
set_option linter.unusedSimpArgs false

abbrev Fl := List (Nat × List UInt8)
structure AS where
  fts : List Fate
  next : Nat
  now : Nat
  l0 : Fl
  l1 : Fl
  sent : Nat
  lost : Nat
  taken : Nat
  bad : Nat
def ofNS (s : NS) : AS := ⟨s.fts, s.next, s.now, er s.u0, er s.u1, s.sent, s.lost, s.taken, s.bad⟩
def AS.l (a : AS) (k : Nat) : Fl := if k = 0 then a.l0 else a.l1
def AS.setl (a : AS) (k : Nat) (l : Fl) : AS := if k = 0 then { a with l0 := l } else { a with l1 := l }
def AS.fate (a : AS) : Fate := match a.fts[a.next]? with | some f => f.norm | none => noFate
def AS.step (a : AS) : AS := if a.fts.length = 0 then a else { a with next := (a.next + 1) % a.fts.length }
def AS.put (a : AS) (k : Nat) (x : Nat × List UInt8) : AS := a.setl k (insE (a.l k) x)
def spoilAt (at_ : Int) (n : Nat) : Nat := ((at_.tmod n + n).tmod n).toNat
def mx (x : Nat) : Nat := if 1 < x then x else 1
def spoil (f : Fate) (ys : List UInt8) : List UInt8 := ys.set (spoilAt f.at_ ys.length) (UInt8.ofNat ((ys.getD (spoilAt f.at_ ys.length) 0).toNat ^^^ mx f.xor))
def AS.does (a : AS) (f : Fate) (k : Nat) (ys : List UInt8) : AS :=
  if f.kind = 1 then { a with lost := sat a.lost }
  else if f.kind = 2 then (a.put k (later a.now 1, ys)).put k (later a.now (1 + f.by_), ys)
  else if f.kind = 3 then a.put k (later a.now (1 + f.by_), ys)
  else if f.kind = 4 then a.put k (later a.now 1, spoil f ys)
  else a.put k (later a.now 1, ys)
def AS.send (a : AS) (k : Nat) (xs : List UInt8) : AS := { a.step with sent := sat a.sent }.does a.fate k (xs ++ be4 (Crc.sum xs))
def AS.come (a : AS) (k : Nat) : Fl := (a.l k).takeWhile (fun y => y.1 ≤ a.now)
def AS.take (a : AS) (k : Nat) : AS := { a.setl k ((a.l k).dropWhile (fun y => y.1 ≤ a.now)) with taken := tkE a.taken (a.come k), bad := bdE a.bad (a.come k) }
def AS.got (a : AS) (k : Nat) : List (List UInt8) := (a.come k).filterMap (fun p => openB p.2)
def AS.tick (a : AS) : AS := { a with now := sat a.now }
structure AS.ok (a : AS) : Prop where
  fl : a.fts.length ≤ 1000000
  fo : ∀ f ∈ a.fts, f.ok
  nx : a.fts.length = 0 ∨ a.next < a.fts.length
  nw : a.now ≤ 18446744073709551615
  se : a.sent ≤ 18446744073709551615
  lo : a.lost ≤ 18446744073709551615
  ta : a.taken ≤ 18446744073709551615
  ba : a.bad ≤ 18446744073709551615
  n0 : a.l0.length ≤ 999998
  n1 : a.l1.length ≤ 999998
  b0 : ∀ p ∈ a.l0, 4 ≤ p.2.length ∧ p.2.length ≤ 1000000
  b1 : ∀ p ∈ a.l1, 4 ≤ p.2.length ∧ p.2.length ≤ 1000000
def NetR (base b : Nat) (a : AS) (F : Value) (w : World) : Prop := ∃ s, NetIn base b s F w ∧ ofNS s = a ∧ Sorted s.u0 ∧ Sorted s.u1

theorem ofNS_setu (s : NS) (k : Nat) (l : List Dg) : ofNS (s.setu k l) = (ofNS s).setl k (er l) := by unfold NS.setu AS.setl; split <;> rfl
theorem ofNS_l (s : NS) (k : Nat) : (ofNS s).l k = er (s.u k) := by unfold NS.u AS.l; split <;> rfl
theorem ofNS_put (s : NS) (k : Nat) (d : Dg) : ofNS (s.setu k (ins (s.u k) d)) = (ofNS s).put k (d.due, d.b) := by rw [ofNS_setu, er_ins, AS.put, ofNS_l]
theorem sorted_setu {s : NS} {l : List Dg} (k : Nat) (h0 : Sorted s.u0) (h1 : Sorted s.u1) (hl : Sorted l) : Sorted (s.setu k l).u0 ∧ Sorted (s.setu k l).u1 := by
  unfold NS.setu; split
  · exact ⟨hl, h1⟩
  · exact ⟨h0, hl⟩
theorem NetR.below {base b : Nat} {a : AS} {F : Value} {w w' : World} (h : NetR base b a F w) (hb : Below w.heap.size w w') : NetR base b a F w' := by
  obtain ⟨s, h, r⟩ := h
  exact ⟨s, h.below hb, r⟩
theorem NetR.hbs {base b : Nat} {a : AS} {F : Value} {w : World} (h : NetR base b a F w) : base ≤ w.heap.size := by obtain ⟨s, h, r⟩ := h; exact h.hbs

theorem spoilAt_lt (x : Int) (n : Nat) (hn : 0 < n) : spoilAt x n < n ∧ (x.tmod n + n).tmod n = (spoilAt x n : Int) := by
  have h1 := Int.tmod_lt_of_pos x (show (0 : Int) < n by omega)
  have h2 : -(n : Int) < x.tmod n := by
    have := Int.lt_tmod_of_pos x (show (0 : Int) < n by omega)
    omega
  have h3 := Int.tmod_lt_of_pos (x.tmod n + n) (show (0 : Int) < n by omega)
  have h4 : 0 ≤ (x.tmod n + n).tmod n := Int.tmod_nonneg _ (by omega)
  unfold spoilAt
  omega

theorem sorted_u {s : NS} (k : Nat) (h0 : Sorted s.u0) (h1 : Sorted s.u1) : Sorted (s.u k) := by unfold NS.u; split <;> assumption
theorem len_u {s : NS} (k n : Nat) (h0 : s.u0.length ≤ n) (h1 : s.u1.length ≤ n) : (s.u k).length ≤ n := by unfold NS.u; split <;> assumption

theorem send_abs (base b : Nat) (a : AS) (F : Value) (sd : Nat) (hsd : sd < 2) (w : World) (h : NetR base b a F w) (ha : a.ok) (A : Option Addr) (xs : List UInt8) (cap : Nat) (hx : xs.length ≤ 2000) (hc : xs.length ≤ cap) (hr : ∀ W, Fr base w W → Rd W A (bv xs)) :
    Calls Try.prog 57 #[.pointer (some ⟨b, 0, none⟩), .int .i64 sd, .slice A xs.length cap] w fun e w' => e = .returned (.int .i64 0) ∧ NetR base b (a.send sd xs) F w' ∧ Fr base w w' := by
  obtain ⟨s, hN, rfl, so0, so1⟩ := h
  obtain ⟨e1, e2, e3, e4, e5, e6, e7, e8⟩ := step_same s
  have hok := ha.fo
  have hno : s.nextOk := ha.nx
  have hl0 : s.u0.length ≤ 999998 := by have := ha.n0; simp only [ofNS, er, List.length_map] at this; exact this
  have hl1 : s.u1.length ≤ 999998 := by have := ha.n1; simp only [ofNS, er, List.length_map] at this; exact this
  obtain ⟨s6, hs6⟩ : ∃ s6, s6 = { s.step with sent := sat s.sent } := ⟨_, rfl⟩
  have q0 : Sorted s6.u0 := by rw [hs6]; show Sorted s.step.u0; rw [e2]; exact so0
  have q1 : Sorted s6.u1 := by rw [hs6]; show Sorted s.step.u1; rw [e3]; exact so1
  have m0 : s6.u0.length ≤ 999998 := by rw [hs6]; show s.step.u0.length ≤ _; rw [e2]; exact hl0
  have m1 : s6.u1.length ≤ 999998 := by rw [hs6]; show s.step.u1.length ≤ _; rw [e3]; exact hl1
  have hnow : s6.now ≤ 18446744073709551615 := by rw [hs6]; show s.step.now ≤ _; rw [e4]; exact ha.nw
  have hlost : s6.lost ≤ 18446744073709551615 := by rw [hs6]; show s.step.lost ≤ _; rw [e6]; exact ha.lo
  have hof : ofNS s6 = { (ofNS s).step with sent := sat s.sent } := by
    rw [hs6]; unfold NS.step AS.step ofNS; simp only; split <;> rfl
  have hfa : (ofNS s).fate = s.fate := rfl
  have hyl : (xs ++ be4 (Crc.sum xs)).length = xs.length + 4 := by simp [be4]
  have hsrt := sorted_u sd q0 q1
  have hlen := len_u sd _ m0 m1
  have hfok : s.fate.ok := by
    unfold NS.fate
    cases hg : s.fts[s.next]? with
    | none => exact ⟨by simp [noFate], by simp [noFate], by simp [noFate], by simp [noFate]⟩
    | some f =>
      have hfm := hok f (List.mem_of_getElem? hg)
      simp only [Fate.norm]
      split
      · exact ⟨by simp, hfm.2.1, hfm.2.2.1, hfm.2.2.2⟩
      · exact hfm
  have hkr : 0 ≤ s.fate.kind ∧ s.fate.kind < 5 := by
    unfold NS.fate
    cases hg : s.fts[s.next]? with
    | none => simp [noFate]
    | some f =>
      simp only [Fate.norm]
      split
      · simp
      · omega
  -- what is to be shown of the function that does it
  obtain ⟨⟨fk, fb, fa, fx⟩, hfe⟩ : ∃ f, s.fate = f := ⟨_, rfl⟩
  have hfin : ∀ (s' : NS) (e : Ending) (W0 W w' : World), Fr base W0 W → ((∃ v, e = .returned v) ∧ NetIn base b s' F w' ∧ Fr base W w') → ofNS s' = (ofNS s).send sd xs → Sorted s'.u0 → Sorted s'.u1 → (∃ v, e = .returned v) ∧ ∃ s', (ofNS s' = (ofNS s).send sd xs ∧ Sorted s'.u0 ∧ Sorted s'.u1) ∧ NetIn base b s' F w' ∧ Fr base W0 w' :=
    fun s' e W0 W w' hF h1 h2 h3 h4 => ⟨h1.1, s', ⟨h2, h3, h4⟩, h1.2.1, hF.trans h1.2.2⟩
  have hsend : (ofNS s).send sd xs = (ofNS s6).does ⟨fk, fb, fa, fx⟩ sd (xs ++ be4 (Crc.sum xs)) := by unfold AS.send; rw [hfa, hfe, hof]; rfl
  rw [hfe] at hfok hkr
  simp only at hkr
  have hfb : fb < 65536 := hfok.2.1
  have hout : ∀ {e : Ending} {w' : World}, (e = .returned (.int .i64 0) ∧ ∃ s', (ofNS s' = (ofNS s).send sd xs ∧ Sorted s'.u0 ∧ Sorted s'.u1) ∧ NetIn base b s' F w' ∧ Fr base w w') → e = .returned (.int .i64 0) ∧ NetR base b ((ofNS s).send sd xs) F w' ∧ Fr base w w' := by
    rintro e w' ⟨he, s', ⟨h1, h2, h3⟩, h4, h5⟩
    exact ⟨he, ⟨s', h4, h1, h2, h3⟩, h5⟩
  have HR5 : ∀ {W0 W : World} {g c' : Nat} {ys : List UInt8}, W.ownsRow W0.heap.size 5 1 (.slice (some ⟨g, 0, none⟩) ys.length c') ys.length (bv ys) → 0 < ys.length → R5 W (some ⟨g, 0, none⟩) ys := fun h hp => (R5.of_own h hp).1
  rcases (by omega : fk = 0 ∨ fk = 1 ∨ fk = 2 ∨ fk = 3 ∨ fk = 4) with rfl | rfl | rfl | rfl | rfl
  · refine (sendG_0 base b s F sd hsd w hN hno ha.fl hok ha.se A xs cap hx hc hr fb fa fx hfe (fun s' => ofNS s' = (ofNS s).send sd xs ∧ Sorted s'.u0 ∧ Sorted s'.u1) ?_).mono fun e w' => hout
    intro W0 W hN0 hB g c' hown hcc
    rw [← hs6] at hN0
    refine (safeS_any base b s6 F sd W0 W hsd hN0 hB hsrt (by omega) hnow _ c' _ (HR5 hown (by omega)) hcc ⟨0, fb, fa, fx⟩).mono fun e w' hd => ?_
    have hs := sorted_setu sd q0 q1 (ins_sorted ⟨later s6.now 1, .slice (some ⟨g, 0, none⟩) (xs ++ be4 (Crc.sum xs)).length c', xs ++ be4 (Crc.sum xs)⟩ hsrt)
    exact hfin _ e W0 W w' (Fr.of_below hN0.hbs hB) hd (by rw [ofNS_put, hsend]; rfl) hs.1 hs.2
  · refine (sendG_1 base b s F sd hsd w hN hno ha.fl hok ha.se A xs cap hx hc hr fb fa fx hfe (fun s' => ofNS s' = (ofNS s).send sd xs ∧ Sorted s'.u0 ∧ Sorted s'.u1) ?_).mono fun e w' => hout
    intro W0 W hN0 hB g c' hown hcc
    rw [← hs6] at hN0
    refine (loseS_any base b s6 F W0 W hN0 hB hlost _ _ ⟨1, fb, fa, fx⟩).mono fun e w' hd => ?_
    exact hfin _ e W0 W w' (Fr.of_below hN0.hbs hB) hd (by rw [hsend]; rfl) q0 q1
  · refine (sendG_2 base b s F sd hsd w hN hno ha.fl hok ha.se A xs cap hx hc hr fb fa fx hfe (fun s' => ofNS s' = (ofNS s).send sd xs ∧ Sorted s'.u0 ∧ Sorted s'.u1) ?_).mono fun e w' => hout
    intro W0 W hN0 hB g c' hown hcc
    rw [← hs6] at hN0
    refine (twiceS_any base b s6 F sd W0 W hsd hN0 hB hsrt (by omega) hnow _ c' _ (HR5 hown (by omega)) hcc ⟨2, fb, fa, fx⟩ hfb).mono fun e w' hd => ?_
    have hs := sorted_setu sd q0 q1 (ins_sorted ⟨later s6.now (1 + fb), .slice (some ⟨g, 0, none⟩) (xs ++ be4 (Crc.sum xs)).length c', xs ++ be4 (Crc.sum xs)⟩ (ins_sorted ⟨later s6.now 1, .slice (some ⟨g, 0, none⟩) (xs ++ be4 (Crc.sum xs)).length c', xs ++ be4 (Crc.sum xs)⟩ hsrt))
    refine hfin _ e W0 W w' (Fr.of_below hN0.hbs hB) hd ?_ hs.1 hs.2
    rw [hsend, ofNS_setu, er_ins, er_ins, ← ofNS_l]
    unfold AS.does AS.put AS.setl AS.l
    by_cases hz : sd = 0 <;> simp [hz] <;> rfl
  · refine (sendG_3 base b s F sd hsd w hN hno ha.fl hok ha.se A xs cap hx hc hr fb fa fx hfe (fun s' => ofNS s' = (ofNS s).send sd xs ∧ Sorted s'.u0 ∧ Sorted s'.u1) ?_).mono fun e w' => hout
    intro W0 W hN0 hB g c' hown hcc
    rw [← hs6] at hN0
    refine (lateS_any base b s6 F sd W0 W hsd hN0 hB hsrt (by omega) hnow _ c' _ (HR5 hown (by omega)) hcc ⟨3, fb, fa, fx⟩ hfb).mono fun e w' hd => ?_
    have hs := sorted_setu sd q0 q1 (ins_sorted ⟨later s6.now (1 + fb), .slice (some ⟨g, 0, none⟩) (xs ++ be4 (Crc.sum xs)).length c', xs ++ be4 (Crc.sum xs)⟩ hsrt)
    exact hfin _ e W0 W w' (Fr.of_below hN0.hbs hB) hd (by rw [ofNS_put, hsend]; rfl) hs.1 hs.2
  · refine (sendG_4 base b s F sd hsd w hN hno ha.fl hok ha.se A xs cap hx hc hr fb fa fx hfe (fun s' => ofNS s' = (ofNS s).send sd xs ∧ Sorted s'.u0 ∧ Sorted s'.u1) ?_).mono fun e w' => hout
    intro W0 W hN0 hB g c' hown hcc
    rw [← hs6] at hN0
    generalize hys : xs ++ be4 (Crc.sum xs) = ys at *
    obtain ⟨k1, k2⟩ := spoilAt_lt fa ys.length (by omega)
    have hfx : fx < 256 := hfok.2.2.2
    have hmx : mx fx < 256 := by unfold mx; split <;> omega
    have hby : ys[spoilAt fa ys.length].toNat < 256 := UInt8.toNat_lt _
    refine (spoiltS_any base b s6 F sd W0 W hsd hN0 hB hsrt (by omega) hnow g c' ys hown ⟨4, fb, fa, fx⟩ (mx fx : Nat) (by unfold mx; simp only; split <;> split <;> omega) (spoilAt fa ys.length) k1 k2 ?_ (UInt8.ofNat (ys[spoilAt fa ys.length].toNat ^^^ mx fx)) ?_).mono fun e w' hd => ?_
    · have t1 := Int.tmod_lt_of_pos fa (show (0 : Int) < ys.length by omega)
      have t2 := Int.lt_tmod_of_pos fa (show (0 : Int) < ys.length by omega)
      rw [IntKind.wrap_i64]; simp only; omega
    · rw [xor_u8 _ _ hby hmx]
      have : ys[spoilAt fa ys.length].toNat ^^^ mx fx < 256 := Nat.xor_lt_two_pow (n := 8) hby hmx
      rw [UInt8.toNat_ofNat', Nat.mod_eq_of_lt this]
    · have hs := sorted_setu sd q0 q1 (ins_sorted ⟨later s6.now 1, .slice (some ⟨g, 0, none⟩) ys.length c', ys.set (spoilAt fa ys.length) (UInt8.ofNat (ys[spoilAt fa ys.length].toNat ^^^ mx fx))⟩ hsrt)
      refine hfin _ e W0 W0 w' (Fr.refl _ _) hd ?_ hs.1 hs.2
      rw [ofNS_put, hsend]
      unfold AS.does spoil
      simp only [List.getD_eq_getElem?_getD, List.getElem?_eq_getElem k1, Option.getD_some]
      rfl
end Go.Proofs.Ytnbnghihmophpaa
