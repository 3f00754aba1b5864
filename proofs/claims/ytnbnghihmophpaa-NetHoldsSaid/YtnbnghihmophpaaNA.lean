/- The net: Send to side 1, a spoilt one. -/
import Derived.Test.YtnbnghihmophpaaN9
namespace Go.Proofs.Ytnbnghihmophpaa
open Go.RowKit
set_option maxRecDepth 20000
set_option maxHeartbeats 4000000
set_option linter.unusedVariables false
set_option linter.unusedSimpArgs false


theorem send1_4 (base b : Nat) (s : NS) (F v0 v1 : Value) (w : World) (h : NetAt base w b s F v0 v1) (hn : s.nextOk) (hl : s.fts.length ≤ 1000000) (hok : ∀ f ∈ s.fts, f.ok) (hso : Sorted s.u1) (hlen : s.u1.length ≤ 999998) (hnow : s.now ≤ 18446744073709551615)
    (hsent : s.sent ≤ 18446744073709551615) (hlost : s.lost ≤ 18446744073709551615) (A : Option Addr) (xs : List UInt8) (cap : Nat) (hx : xs.length ≤ 2000) (hc : xs.length ≤ cap) (hr : ∀ W, Fr base w W → Rd W A (bv xs)) (fb : Nat) (fa : Int) (fx : Nat) (hf : s.fate = ⟨4, fb, fa, fx⟩) (hfb : fb < 65536) (hfa : fa = 0) (hfx : fx = 0) (x0 y : UInt8) (tl : List UInt8) (hx0 : xs = x0 :: tl) (hy : bits .xor .u8 (x0.toNat : Nat) 1 = (y.toNat : Nat)):
    Calls Try.prog 57 #[.pointer (some ⟨b, 0, none⟩), .int .i64 1, .slice A xs.length cap] w fun e w' => e = .returned (.int .i64 0) ∧ ∃ (at_ : Value) (v1' : Value), NetAt base w' b { s.step with sent := sat s.sent, u1 := ins s.u1 ⟨later s.now 1, at_, (xs ++ be4 (Crc.sum xs)).set 0 y⟩ } F v0 v1' ∧ Fr base w w' := by
  have hbs : base ≤ w.heap.size := by have := h.hb; have := h.blk.lt; omega
  have hyl : (xs ++ be4 (Crc.sum xs)).length = xs.length + 4 := by simp [be4]
  have HFA := Lib.hid (fun W (hN : NetAt base W b s F v0 v1) => fate_any base b s F v0 v1 W hN hn hl hok)
  rw [hf] at HFA
  simp only [Fate.cells] at HFA
  have H := Lib.hid h
  have HR := Lib.hid hr
  have HPUT := Lib.hid (fun W (hW : Rd W A (bv xs)) => put_any A xs cap W (by omega) hc hW)
  have hgy : ∀ zs : List UInt8, zs = xs ++ be4 (Crc.sum xs) → ∀ h, zs[0]'h = x0 := by intro zs hz h; subst hz; subst hx0; rfl
  have hT0 : ∀ zs : List UInt8, (fa.tmod zs.length + zs.length).tmod zs.length = ((0 : Nat) : Int) := by intro zs; subst hfa; simp
  have hT1 : ∀ zs : List UInt8, zs.length ≤ 2004 → IntKind.i64.wrap (fa.tmod zs.length + zs.length) = fa.tmod zs.length + zs.length := by intro zs hz; subst hfa; rw [IntKind.wrap_i64]; simp; omega
  have hys1 : (xs ++ be4 (Crc.sum xs)).length ≤ 2004 := by omega
  have HFX := Lib.hid hfx
  have HY := Lib.hid hy
  clear hfx hfa hx0 hy
  obtain ⟨ys, hys⟩ : ∃ ys, ys = xs ++ be4 (Crc.sum xs) := ⟨_, rfl⟩
  rw [← hys] at HPUT hyl hys1
  try rw [← hys]
  have HYS := Lib.hid hys
  have hypos : 4 ≤ ys.length := by omega
  clear hys hyl
  obtain ⟨e1, e2, e3, e4, e5, e6, e7, e8⟩ := step_same s
  have HE1 := Lib.hid e1
  have HE2 := Lib.hid e2
  have HE3 := Lib.hid e3
  have HE4 := Lib.hid e4
  have HE5 := Lib.hid e5
  have HE6 := Lib.hid e6
  have HADD := Lib.hid (fun W (hN : NetAt base W b s.step F v0 v1) => add_any b 5 s.sent W (netCells s.step F v0 v1) 134 hN.blk (by rw [← e5]; rfl) hsent)
  obtain ⟨s6, hs6⟩ : ∃ s6, s6 = { s.step with sent := sat s.sent } := ⟨_, rfl⟩
  have hso6 : Sorted s6.u1 := by rw [hs6]; show Sorted s.step.u1; rw [e3]; exact hso
  have hlen6 : s6.u1.length ≤ 999998 := by rw [hs6]; show s.step.u1.length ≤ _; rw [e3]; exact hlen
  have hnow6 : s6.now ≤ 18446744073709551615 := by rw [hs6]; show s.step.now ≤ _; rw [e4]; exact hnow
  have hlost6 : s6.lost ≤ 18446744073709551615 := by rw [hs6]; show s.step.lost ≤ _; rw [e6]; exact hlost
  have HDO := Lib.hid (fun (W0 W : World) v1' (hN : NetAt base W0 b s6 F v0 v1') (hB : Below W0.heap.size W0 W) g c' (hown : W.ownsRow W0.heap.size 5 1 (.slice (some ⟨g, 0, none⟩) ys.length c') ys.length (bv ys)) (hcc : ys.length ≤ c') => spoilt1_any base b s6 F v0 v1' W0 W hN hB hso6 (by omega) hnow6 g c' ys hown ⟨4, fb, fa, fx⟩ HFX.out 0 (by omega) (hT0 ys) (hT1 ys hys1) y (by rw [hgy ys HYS.out]; exact HY.out))
  have HS6 := Lib.hid hs6
  have HZ146 := Lib.hid info146
  have HZ79 := Lib.hid info79
  have HEN24 := Lib.hid (callFunc_in (P := Try.prog) (f := 24) (fn := Try.f24) rfl (by kernel_rfl) (by kernel_rfl))
  have HEND := Lib.hid (callFunc_in (P := Try.prog) (f := 93) (fn := Try.f93) rfl (by kernel_rfl) (by kernel_rfl))
  have HNOW := Lib.hid (show s.now = s6.now by rw [hs6]; exact e4.symm)
  have hxl : ¬ ((2000 : Int) < xs.length) := by omega
  have MARK1 : True := trivial
  clear h hr hn hl hok hf hs6 hso6 hlen6 hlost6 hnow6 e1 e2 e3 e4 e5 e6 e7 e8 hso hlen hlost hnow hsent
  go_enter Try.func57, Try.ntmps57
  go_wp2_with (first
    | (go_at_call 85; refine (right_yes 1 (by omega) _).mono ?_; rintro e wz ⟨rfl, rfl⟩)
    | (refine wpList_alloc_e rfl 146 rfl _ HZ146.out ?_; intro w1 hbD hbel1 hs1)
    | (refine wpList_store_all rfl 146 (.tmp 7) (.tmp 20) rfl w.heap.size 146 _ doFuncs rfl rfl hbD (by kernel_rfl) rfl (by simp [doFuncs, Value.oneCell']) ?_
       intro w2 hD2 hg2 hs2
       have hB2 : Below w.heap.size w w2 := hbel1.grown hg2 hbel1.size (by simp)
       have HD2 := Lib.hid hD2
       have HB2 := Lib.hid hB2
       clear hD2 hg2 hB2 hbel1 hbD hs1 hs2)
    | (go_at_call 94; refine (HFA.out _ (H.out.below hbs HB2.out)).mono ?_; rintro e w3 ⟨rfl, hN3, hF3⟩
       have HN3 := Lib.hid hN3
       have HF3 := Lib.hid ((Fr.of_below hbs HB2.out).trans hF3)
       have HD3 := Lib.hid (HD2.out.fr hF3 (by decide) (by decide))
       clear hN3 hF3)
    | (refine wpList_alloc_e rfl 79 rfl _ HZ79.out ?_; intro w4 hb4 hbel4 hs4)
    | (refine wpList_store_all rfl 79 (.tmp 8) (.tmp 22) rfl w3.heap.size 79 _ #[.int .i64 4, .int .u16 fb, .int .i64 fa, .int .u8 fx] rfl rfl hb4 (by kernel_rfl) rfl (by simp [Value.oneCell']) ?_
       intro w5 hT5 hg5 hs5
       have hB5 : Below w3.heap.size w3 w5 := hbel4.grown hg5 hbel4.size (by simp)
       have hbs3 : base ≤ w3.heap.size := by have := HF3.out.size; omega
       have HN5 := Lib.hid (HN3.out.below hbs3 hB5)
       have HD5 := Lib.hid (HD3.out.below hB5 HD3.out.lt)
       have HF5 := Lib.hid (HF3.out.trans (Fr.of_below hbs3 hB5))
       have HT5 := Lib.hid hT5
       clear hT5 hg5 hB5 hbel4 hb4 hs4 hs5)
    | (go_at_call 87; refine (HADD.out _ HN5.out).mono ?_; rintro e w6 ⟨⟨v, rfl⟩, hb6, hg6, hs6'⟩
       have hup := HN5.out.upd (s' := s6) hg6 (by rw [HS6.out]; exact hb6) (by rw [HS6.out]) (by rw [HS6.out]) (by rw [HS6.out])
       have HN6 := Lib.hid hup.1
       have HF6 := Lib.hid (HF5.out.trans hup.2)
       have hD6 := HD5.out.fr hup.2 (by decide) (by decide)
       have hT6 := HT5.out.fr hup.2 (by decide) (by decide)
       have dK := hD6.cell 4
       have q0 := hT6.cell 0
       have q1 := hT6.cell 1
       have q2 := hT6.cell 2
       have q3 := hT6.cell 3
       simp [doFuncs] at q0 q1 q2 q3 dK
       clear hb6 hg6 hs6' hup hD6 hT6))
  go_region_law (first
    | (refine step_call rfl 24 #[.tmp 33] #[23] rfl #[.slice A xs.length cap] (by simp [Act.eval, Act.put]) (HEN24.out _) ((HPUT.out w6.drew (HR.out w6 HF6.out)).mono ?_); rintro e w8 ⟨A8, c8, rfl, hown8, hb8⟩; refine ⟨_, rfl, ?_⟩; have hb8' : Below w6.heap.size w6 w8 := ⟨hb8.os, hb8.tape, hb8.output, hb8.size, hb8.block⟩; have r0 := cell_below q0 hb8'; have r1 := cell_below q1 hb8'; have r2 := cell_below q2 hb8'; have r3 := cell_below q3 hb8'; have rK := cell_below dK hb8')
    | (obtain ⟨g8, rfl⟩ : ∃ g8, A8 = some ⟨g8, 0, none⟩ := by
         rcases hown8.2 with ⟨he, h0⟩ | ⟨g', cap', cur', he, _⟩
         · omega
         · injection he with he; exact ⟨g', he⟩
       have hcc8 : ys.length ≤ c8 := by obtain ⟨A', c', he, h1, _⟩ := own_slice hown8; injection he with _ _ he; omega
       refine step_callv rfl 93 (.tmp 30) #[.tmp 31, .tmp 32, .tmp 34, .tmp 35] #[70, 3, 23, 79] rfl (by simp [Act.eval, Act.put]) #[.pointer (some ⟨b, 0, none⟩), .int .i64 1, .slice (some ⟨g8, 0, none⟩) ys.length c8, .agg #[.int .i64 4, .int .u16 fb, .int .i64 fa, .int .u8 fx]] (by simp [Act.eval, Act.put]) (HEND.out _) ((HDO.out w6 w8 v1 HN6.out hb8' g8 c8 hown8 hcc8).mono ?_); rintro e w9 ⟨⟨v, rfl⟩, v1', hN9, hF9⟩; refine ⟨_, rfl, ?_⟩))
  all_goals go_wp2
  all_goals go_ret
  all_goals (refine ⟨rfl, .slice (some ⟨g8, 0, none⟩) ys.length c8, v1', ?_, HF6.out.trans hF9⟩; have h9 := hN9; rw [HS6.out] at h9; simpa only [HE3.out, HE4.out, HE6.out] using h9)
end Go.Proofs.Ytnbnghihmophpaa
