/- The net: what comes is taken (side 1). -/
import Derived.Test.YtnbnghihmophpaaND
namespace Go.Proofs.Ytnbnghihmophpaa
open Go.RowKit
set_option maxRecDepth 20000
set_option maxHeartbeats 4000000
set_option linter.unusedVariables false
set_option linter.unusedSimpArgs false

def come (s : NS) : List Dg := s.u1.takeWhile (fun d => d.due ≤ s.now)
def left (s : NS) : List Dg := s.u1.dropWhile (fun d => d.due ≤ s.now)
theorem come_at (ds : List Dg) (now k : Nat) (hk : k ≤ ds.length) (h1 : ∀ i (h : i < ds.length), i < k → ds[i].due ≤ now) (h2 : ∀ h : k < ds.length, ¬ ds[k].due ≤ now) :
    ds.take k = ds.takeWhile (fun d => d.due ≤ now) ∧ ds.drop k = ds.dropWhile (fun d => d.due ≤ now) := by
  induction ds generalizing k with
  | nil => simp
  | cons x xs ih =>
    cases k with
    | zero =>
      have hx : ¬ (x.due ≤ now) := h2 (by simp)
      simp [List.takeWhile_cons, List.dropWhile_cons, hx]
    | succ k =>
      have hx : x.due ≤ now := h1 0 (by simp) (by omega)
      have := ih k (by simpa using hk) (fun i h hi => h1 (i + 1) (by simpa using h) (by omega)) (fun h => h2 (by simpa using h))
      simp [List.takeWhile_cons, List.dropWhile_cons, hx, this]

theorem take1_any (base b : Nat) (s : NS) (F v0 v1 : Value) (w : World) (h : NetAt base w b s F v0 v1) (hlen : s.u1.length ≤ 999999) (hnow : s.now ≤ 18446744073709551615) (htk : s.taken ≤ 18446744073709551615) (hbd : s.bad ≤ 18446744073709551615)
    (hlb : ∀ d ∈ s.u1, 4 ≤ d.b.length ∧ d.b.length ≤ 1000000) :
    Calls Try.prog 54 #[.pointer (some ⟨b, 0, none⟩), .int .i64 1] w fun e w' => ∃ (os : List (Value × List UInt8)) (v1' : Value) (A : Option Addr) (c : Nat), e = .returned (.slice A os.length c) ∧
      w'.ownsRow w.heap.size 23 1 (.slice A os.length c) os.length (os.map (·.1)) ∧ (∀ p ∈ os, OutAt w.heap.size w' p) ∧ os.map (·.2) = (come s).filterMap (fun d => openB d.b) ∧
      NetAt base w' b { s with u1 := left s, taken := tkT s.taken (come s), bad := tkB s.bad (come s) } F v0 v1' ∧ Fr base w w' := by
  have hbs : base ≤ w.heap.size := by have := h.hb; have := h.blk.lt; omega
  obtain ⟨-, -, c2, c3, c4⟩ := h.c0
  obtain ⟨A1, n1, hve, hnc, hcm⟩ := own_slice h.r1.1
  have hRd := Rd.of_own (hve ▸ h.r1.1)
  have H := Lib.hid h
  subst hve
  clear h
  have HLB := Lib.hid hlb
  clear hlb
  go_enter Try.func54, Try.ntmps54
  go_wp2_with (go_at_call 85; refine (right_yes 1 (by omega) _).mono ?_; rintro e wz ⟨rfl, rfl⟩)
  go_loopw [6] (fun iv wr => ∃ k : Nat, k ≤ s.u1.length ∧ iv = .int .i64 k ∧ Hid (∀ i (h : i < s.u1.length), i < k → s.u1[i].due ≤ s.now) ∧ ∃ m, wr = w.drewN m) (fun iv _ => s.u1.length - (intOf iv).toNat)
  case atStart => exact ⟨0, by omega, rfl, fun i h hi => by omega, 0, rfl⟩
  case round =>
    obtain ⟨k, hk, rfl, HK, m, rfl⟩ := hrel
    by_cases hlt : k < s.u1.length
    · obtain ⟨g, off, rfl, hd1, hd2⟩ := dat_cell hRd k hlt
      have i0 : (0 : Int) ≤ k := by omega
      have i1 : (k : Int) < s.u1.length := by omega
      have hdec : (decide (s.u1[k].due ≤ s.now)) = true ∨ ¬ s.u1[k].due ≤ s.now := by by_cases hh : s.u1[k].due ≤ s.now; exact .inl (by simp [hh]); exact .inr hh
      obtain ⟨dd, hdd⟩ : ∃ dd, dd = s.u1[k].due := ⟨_, rfl⟩
      rw [← hdd] at hd1
      by_cases hle : dd ≤ s.now
      · have HN := Lib.hid (show ∀ i (h : i < s.u1.length), i < k + 1 → s.u1[i].due ≤ s.now from fun i h hi => by
          rcases Nat.lt_or_eq_of_le (Nat.lt_succ_iff.1 hi) with h' | rfl
          · exact HK.out i h h'
          · rw [← hdd]; exact hle)
        clear hdec hdd hRd
        go_wp2
        go_quiet (fail)
        go_wp2
        go_roundw
        case rel => exact ⟨k + 1, by omega, by go_num, HN, _, rfl⟩
        case measure => simp [intOf]; omega
      · have hcl := Lib.hid (come_at s.u1 s.now k hk HK.out (fun h => by rw [← hdd]; exact hle))
        clear hdec hdd
        obtain ⟨HR2⟩ : Nonempty (Hid (Rd w (some ⟨g, off, none⟩) (dcells s.u1))) := ⟨hRd⟩
        clear hRd
        go_wp2
        go_quiet (fail)
        go_wp2
        generalize m + nq = q
        have hn1 : ¬ n1 = k := by omega
        have hki : (k : Int) ≤ s.u1.length := by omega
        have HC := Lib.hid (cloneD_any (some ⟨g, off + k * 2, none⟩) (s.u1.length - k) (n1 - k) ((dcells s.u1).drop (2 * k)) (w.drewN q).drew (by omega) (by simp [dcells_length]; omega) (rd_drop2 HR2.out) (fun u hu => dcells_one _ (fun d hd => by obtain ⟨A', c', e, _⟩ := H.out.r1.2 d hd; exact ⟨_, _, _, e⟩) u (List.mem_of_mem_drop hu)) (fun e => by cases e))
        have HEN := Lib.hid (callFunc_in (P := Try.prog) (f := 86) (fn := Try.f86) rfl (by kernel_rfl) (by kernel_rfl))
        go_region_law (refine step_call rfl 86 #[.tmp 51] #[124] rfl #[.slice (some ⟨g, off + k * 2, none⟩) (s.u1.length - k) (n1 - k)] (by simp [Act.eval, Act.put]) (HEN.out _) ((HC.out).mono ?_); rintro e W8 ⟨v8, rfl, hown8, hb8⟩; obtain ⟨A8, c8, rfl, _, _⟩ := own_slice hown8; refine ⟨_, rfl, ?_⟩; obtain ⟨t1, t2, HN8, HF8, HO8, HD8⟩ := take_mid (W0 := w) H.out hbs k (by omega) rfl ⟨hb8.os, hb8.tape, hb8.output, hb8.size, hb8.block⟩ hown8; clear hb8 hown8)
        generalize hWW : W8.setCell ⟨b, 4, none⟩ (.slice A8 (s.u1.length - k) c8) = W9 at HN8 HF8 HO8 HD8 ⊢
        generalize hVV : Value.slice A8 (s.u1.length - k) c8 = V8 at HN8
        clear hWW hVV t1 t2 HC HEN
        go_wp2
        go_loopw [4, 58] (fun lv iv wr => ∃ j : Nat, j ≤ k ∧ iv = .int .i64 j ∧ ∃ (os : List (Value × List UInt8)) (A : Option Addr) (c : Nat), lv = .slice A os.length c ∧ Hid (Bag w.heap.size base s.u1.length n1 (some ⟨g, off, none⟩) s.u1 os A c wr) ∧
          Hid (os.map (·.2) = (s.u1.take j).filterMap (fun d => openB d.b)) ∧ Hid (NetAt base wr b { s with u1 := s.u1.drop k, taken := tkT s.taken (s.u1.take j), bad := tkB s.bad (s.u1.take j) } F v0 V8) ∧ Hid (Fr base w wr)) (fun _ iv _ => k - (intOf iv).toNat)
        case atStart => exact ⟨0, by omega, rfl, [], none, 0, rfl, ⟨World.ownsRow_nil _ _ _ _, fun p hp => by simp at hp, HO8.out, HD8.out⟩, Lib.hid (by simp), HN8, HF8⟩
        case round =>
          obtain ⟨j, hj, rfl, os, A, c, rfl, HBG, HMP, HN9, HF9⟩ := hrel
          by_cases hjk : j < k
          · have hjl : j < s.u1.length := by omega
            obtain ⟨g', off', he, hd1, hd2⟩ := dat_cell (Rd.of_own HBG.out.old) j hjl
            injection he with he; injection he with e1 e2; subst e1; subst e2
            obtain ⟨Ad, cd, hat, hcd, hr5⟩ := HBG.out.dat s.u1[j] (List.getElem_mem _)
            obtain ⟨hl4, hlm⟩ := HLB.out s.u1[j] (List.getElem_mem _)
            have htake : s.u1.take (j + 1) = s.u1.take j ++ [s.u1[j]] := List.take_succ_eq_append_getElem hjl
            have HTK := Lib.hid htake
            rw [hat] at hd2
            generalize s.u1[j] = d at *
            obtain ⟨due, at_, bs⟩ := d
            simp only at hat hcd hr5 hl4 hlm hd1 hd2
            have HR5 := Lib.hid hr5
            have HB9 := Lib.hid (HN9.out.blk.lt)
            clear hat hr5 htake
            have i0 : (0 : Int) ≤ j := by omega
            have i1 : (j : Int) < k := by omega
            have hosl : os.length ≤ j := by
              have h1 := congrArg List.length HMP.out
              have h2 := List.length_filterMap_le (fun d : Dg => openB d.b) (s.u1.take j)
              simp at h1 h2; omega
            have hbw : w.heap.size ≤ wr.heap.size := HF9.out.size
            have hbr : base ≤ wr.heap.size := by omega
            cases hob : openB bs with
            | some body =>
              have HOP := Lib.hid (fun W hW => open_some Ad bs body cd W hl4 hlm hcd hW hob)
              have HOB := Lib.hid hob
              have hrow1 := HBG.out.row
              have hol := hrow1.1
              clear hob hrow1 hol
              go_wp2_with (first
                | (go_at_call 26; refine (HOP.out _ ((HR5.out.keep fun g cur hg => Below.heap_alloc wr _ g (Array.getElem?_eq_some_iff.1 hg).1).rd)).mono ?_; rintro e w2 ⟨A2, c2', rfl, hown2, hb2⟩
                   have hB2 : Below wr.heap.size wr w2 := below_then ((Below.refl _ wr).alloc (Nat.le_refl _) _) (by simp) hb2
                   have HN2 := Lib.hid (HN9.out.below hbr hB2)
                   have HG2 := Lib.hid (HBG.out.keep (K134.of_below hB2))
                   have HF2 := Lib.hid (HF9.out.trans (Fr.of_below hbr hB2))
                   have HX2 := Lib.hid (show OutAt w.heap.size w2 (.slice A2 body.length c2', body) from ⟨A2, c2', rfl, own_mono hown2 (by simp; omega)⟩)
                   clear hown2 hb2 hB2)
                | (go_at_call 87; refine (add_any b 7 (tkT s.taken (s.u1.take j)) w2 _ 134 HN2.out.blk rfl (tkT_le _ _ htk)).mono ?_; rintro e w3 ⟨⟨v, rfl⟩, hb3, hg3, hs3⟩
                   have hup := HN2.out.upd (s' := { s with u1 := s.u1.drop k, taken := sat (tkT s.taken (s.u1.take j)), bad := tkB s.bad (s.u1.take j) }) hg3 hb3 rfl rfl rfl
                   have HN3 := Lib.hid hup.1
                   have HF3 := Lib.hid (HF2.out.trans hup.2)
                   have HG3 := Lib.hid (HG2.out.keep (K134.upd HN2.out.blk hg3))
                   have HX3 := Lib.hid (HX2.out.keep134 (K134.upd HN2.out.blk hg3))
                   have hbw3 : w.heap.size ≤ w3.heap.size := HF3.out.size
                   clear hb3 hg3 hs3 hup)
                | (at_builtin
                   have hBa := (Below.refl _ w3).alloc (Nat.le_refl _) (Obj.cells #[.slice A2 body.length c2'] 23)
                   have HNa := Lib.hid (HN3.out.below (by omega) hBa)
                   have HGa := Lib.hid (HG3.out.keep (K134.of_below hBa))
                   have HFa := Lib.hid (HF3.out.trans (Fr.of_below (by omega) hBa))
                   have HXa := Lib.hid (HX3.out.keep134 (K134.of_below hBa))
                   have hrd1 : Rd (w3.alloc (Obj.cells #[.slice A2 body.length c2'] 23)) (some ⟨w3.heap.size, 0, none⟩) [.slice A2 body.length c2'] := by
                     intro j hj
                     refine ⟨_, 0, rfl, ?_⟩
                     rw [Nat.zero_add, (Blk.new w3 23 #[.slice A2 body.length c2']).cell]
                     match j, hj with
                     | 0, _ => rfl
                   refine wpList_append_rd rfl (.tmp 78) (.tmp 80) 56 rfl w.heap.size 23 (.slice none 0 0) 1 24 Try.underlying56 info23 rfl (by omega) (.slice A os.length c) os.length (os.map (·.1)) rfl HGa.out.row (some ⟨w3.heap.size, 0, none⟩) 1 1 [.slice A2 body.length c2'] rfl rfl hrd1 (by simp [Value.oneCell']) (by simp only [maxLen]; omega) (by omega) (by simp; omega) ?_
                   intro v4 w4 hown4 hg4 _
                   obtain ⟨A4, c4', rfl, hG4, hK4⟩ := HGa.out.more hown4 hg4 HXa.out
                   have HG4 := Lib.hid hG4
                   have HN4 := Lib.hid (HNa.out.keepT hK4)
                   have HF4 := Lib.hid (HFa.out.above hbs hg4 (fun g hg => (own_block HGa.out.row hg).1))
                   clear hown4 hg4 hG4 hK4 hrd1 hBa))
              refine ⟨⟨j + 1, by omega, by go_num, os ++ [(.slice A2 body.length c2', body)], A4, c4', by simp, HG4, ?_, ?_, HF4⟩, by simp [intOf]; omega⟩
              · show _ = _
                rw [HTK.out, List.filterMap_append, List.map_append, HMP.out]
                simp [HOB.out]
              · show NetAt _ _ _ _ _ _ _
                have h9 := HN4.out
                rw [HTK.out, tkT_snoc, tkB_snoc]
                simp only [HOB.out, Option.isSome_some, if_true]
                exact h9
            | none =>
              have HOP := Lib.hid (fun W hW => open_none Ad bs cd W hl4 hlm hcd hW hob)
              have HOB := Lib.hid hob
              clear hob
              go_wp2_with (first
                | (go_at_call 26; refine (HOP.out _ ((HR5.out.keep fun g cur hg => Below.heap_alloc wr _ g (Array.getElem?_eq_some_iff.1 hg).1).rd)).mono ?_; rintro e w2 ⟨rfl, hb2⟩
                   have hB2 : Below wr.heap.size wr w2 := below_then ((Below.refl _ wr).alloc (Nat.le_refl _) _) (by simp) hb2
                   have HN2 := Lib.hid (HN9.out.below hbr hB2)
                   have HG2 := Lib.hid (HBG.out.keep (K134.of_below hB2))
                   have HF2 := Lib.hid (HF9.out.trans (Fr.of_below hbr hB2))
                   clear hb2 hB2)
                | (go_at_call 87; refine (add_any b 8 (tkB s.bad (s.u1.take j)) w2 _ 134 HN2.out.blk rfl (tkB_le _ _ hbd)).mono ?_; rintro e w3 ⟨⟨v, rfl⟩, hb3, hg3, hs3⟩
                   have hup := HN2.out.upd (s' := { s with u1 := s.u1.drop k, taken := tkT s.taken (s.u1.take j), bad := sat (tkB s.bad (s.u1.take j)) }) hg3 hb3 rfl rfl rfl
                   have HN3 := Lib.hid hup.1
                   have HF3 := Lib.hid (HF2.out.trans hup.2)
                   have HG3 := Lib.hid (HG2.out.keep (K134.upd HN2.out.blk hg3))
                   clear hb3 hg3 hs3 hup))
              refine ⟨⟨j + 1, by omega, by go_num, os, A, c, rfl, HG3, ?_, ?_, HF3⟩, by simp [intOf]; omega⟩
              · show _ = _
                rw [HTK.out, List.filterMap_append, HMP.out]
                simp [HOB.out]
              · show NetAt _ _ _ _ _ _ _
                have h9 := HN3.out
                rw [HTK.out, tkT_snoc, tkB_snoc]
                simp only [HOB.out, Option.isSome_none, Bool.false_eq_true, if_false]
                exact h9
          · obtain rfl : j = k := by omega
            go_wp2
            go_ret
            have e1 : s.u1.take j = come s := hcl.out.1
            have e2 : s.u1.drop j = left s := hcl.out.2
            have h9 := HN9.out
            have hm := HMP.out
            rw [e1, e2] at h9
            rw [e1] at hm
            exact ⟨os, V8, A, c, rfl, HBG.out.row, HBG.out.outs, hm, h9, HF9.out⟩
    · have hkn : k = s.u1.length := by omega
      have hcl := Lib.hid (come_at s.u1 s.now k hk HK.out (fun h => absurd h hlt))
      have hnlt : ¬ (k : Int) < s.u1.length := by omega
      have hown1 := H.out.r1.1
      rcases A1 with _ | ⟨g, off, sp⟩
      · have hn0 : s.u1.length = 0 := by
          rcases hown1.2 with ⟨_, h0⟩ | ⟨g', cap', cur', he, _⟩
          · exact h0
          · injection he with he; cases he
        have hn10 : n1 = 0 := by
          rcases hown1.2 with ⟨he, _⟩ | ⟨g', cap', cur', he, _⟩
          · injection he
          · injection he with he; cases he
        obtain rfl : k = 0 := by omega
        subst hn10
        have hds : s.u1 = [] := List.eq_nil_of_length_eq_zero hn0
        have HDS := Lib.hid hds
        have h0 := H.out
        rw [hn0] at h0
        have H0 := Lib.hid h0
        clear hown1 hRd hkn H HLB HK hds h0
        rw [hn0] at c4
        go_wp2
        go_quiet (fail)
        go_wp2
        generalize m + nq = q
        have HC := Lib.hid (cloneD_any none 0 0 [] (w.drewN q).drew (by omega) rfl (Rd.nil _ _) (fun u hu => by simp at hu) (fun _ => ⟨rfl, rfl⟩))
        have HEN := Lib.hid (callFunc_in (P := Try.prog) (f := 86) (fn := Try.f86) rfl (by kernel_rfl) (by kernel_rfl))
        go_region_law (refine step_call rfl 86 #[.tmp 51] #[124] rfl #[.slice none 0 0] (by simp [Act.eval, Act.put]) (HEN.out _) ((HC.out).mono ?_); rintro e W8 ⟨v8, rfl, hown8, hb8⟩; obtain ⟨A8, c8, rfl, _, _⟩ := own_slice hown8; refine ⟨_, rfl, ?_⟩; obtain ⟨t1, t2, HN8, HF8, HO8, HD8⟩ := take_mid (n := 0) (W0 := w) H0.out hbs 0 (Nat.le_refl 0) (by rw [HDS.out]; rfl) ⟨hb8.os, hb8.tape, hb8.output, hb8.size, hb8.block⟩ (by rw [HDS.out]; exact hown8); clear hb8 hown8)
        generalize hWW : W8.setCell ⟨b, 4, none⟩ (.slice A8 (0 - 0) c8) = W9 at HN8 HF8 HO8 HD8
        clear hWW t1 t2 HC HEN hn0
        go_wp2
        go_loopw [4, 58] (fun lv iv wr => lv = .slice none 0 0 ∧ iv = .int .i64 0 ∧ wr = W9) (fun _ _ _ => 0)
        case atStart => exact ⟨rfl, rfl, rfl⟩
        case round =>
          obtain ⟨rfl, rfl, rfl⟩ := hrel
          go_wp2
          go_ret
          have h9 := HN8.out
          refine ⟨[], .slice A8 (0 - 0) c8, none, 0, rfl, World.ownsRow_nil _ _ _ _, fun p hp => by simp at hp, by simp [come, HDS.out], ?_, HF8.out⟩
          have e1 : come s = [] := by simp [come, HDS.out]
          have e2 : left s = s.u1.drop 0 := by simp [left, HDS.out]
          rw [e1, e2]
          exact h9
      · obtain ⟨hoff, hsp⟩ : off = 0 ∧ sp = none := by
          rcases hown1.2 with ⟨he, _⟩ | ⟨g', cap', cur', he, _⟩
          · injection he with he; cases he
          · injection he with he; injection he with he; injection he with _ h1 h2; exact ⟨h1, h2⟩
        subst hsp
        clear hoff hown1
        obtain ⟨HR2⟩ : Nonempty (Hid (Rd w (some ⟨g, off, none⟩) (dcells s.u1))) := ⟨hRd⟩
        have HKN := Lib.hid hkn
        by_cases hn1 : n1 = k
        · have hn2 := hn1.symm
          subst hn2
          clear hRd hkn hn1
          go_wp2
          go_quiet (fail)
          go_wp2
          have hz : s.u1.length - k = 0 := by omega
          generalize m + nq = q
          have hki : (k : Int) ≤ s.u1.length := by omega
          have HC := Lib.hid (cloneD_any (some ⟨g, off, none⟩) 0 0 ((dcells s.u1).drop (2 * k)) (w.drewN q).drew (by omega) (by simp [dcells_length]; omega) (by rw [List.drop_eq_nil_of_le (by rw [dcells_length]; omega)]; exact Rd.nil _ _) (fun u hu => dcells_one _ (fun d hd => by obtain ⟨A', c', e, _⟩ := H.out.r1.2 d hd; exact ⟨_, _, _, e⟩) u (List.mem_of_mem_drop hu)) (fun e => by cases e))
          have HEN := Lib.hid (callFunc_in (P := Try.prog) (f := 86) (fn := Try.f86) rfl (by kernel_rfl) (by kernel_rfl))
          go_region_law (refine step_call rfl 86 #[.tmp 51] #[124] rfl #[.slice (some ⟨g, off, none⟩) 0 0] (by simp [Act.eval, Act.put]) (HEN.out _) ((HC.out).mono ?_); rintro e W8 ⟨v8, rfl, hown8, hb8⟩; obtain ⟨A8, c8, rfl, _, _⟩ := own_slice hown8; refine ⟨_, rfl, ?_⟩; have tm := take_mid (c8 := c8) (A8 := A8) (W0 := w) H.out hbs k (by omega) rfl ⟨hb8.os, hb8.tape, hb8.output, hb8.size, hb8.block⟩ (by rw [hz]; exact hown8); rw [hz] at tm; obtain ⟨t1, t2, HN8, HF8, HO8, HD8⟩ := tm; clear hb8 hown8)
          generalize hWW : W8.setCell ⟨b, 4, none⟩ (.slice A8 0 c8) = W9 at HN8 HF8 HO8 HD8 ⊢
          generalize hVV : Value.slice A8 0 c8 = V8 at HN8
          clear hWW hVV t1 t2 HC HEN
          go_wp2
          go_loopw [4, 58] (fun lv iv wr => ∃ j : Nat, j ≤ k ∧ iv = .int .i64 j ∧ ∃ (os : List (Value × List UInt8)) (A : Option Addr) (c : Nat), lv = .slice A os.length c ∧ Hid (Bag w.heap.size base s.u1.length k (some ⟨g, off, none⟩) s.u1 os A c wr) ∧
            Hid (os.map (·.2) = (s.u1.take j).filterMap (fun d => openB d.b)) ∧ Hid (NetAt base wr b { s with u1 := s.u1.drop k, taken := tkT s.taken (s.u1.take j), bad := tkB s.bad (s.u1.take j) } F v0 V8) ∧ Hid (Fr base w wr)) (fun _ iv _ => k - (intOf iv).toNat)
          case atStart => exact ⟨0, by omega, rfl, [], none, 0, rfl, ⟨World.ownsRow_nil _ _ _ _, fun p hp => by simp at hp, HO8.out, HD8.out⟩, Lib.hid (by simp), HN8, HF8⟩
          case round =>
            obtain ⟨j, hj, rfl, os, A, c, rfl, HBG, HMP, HN9, HF9⟩ := hrel
            by_cases hjk : j < k
            · have hjl : j < s.u1.length := by omega
              obtain ⟨g', off', he, hd1, hd2⟩ := dat_cell (Rd.of_own HBG.out.old) j hjl
              injection he with he; injection he with e1 e2; subst e1; subst e2
              obtain ⟨Ad, cd, hat, hcd, hr5⟩ := HBG.out.dat s.u1[j] (List.getElem_mem _)
              obtain ⟨hl4, hlm⟩ := HLB.out s.u1[j] (List.getElem_mem _)
              have htake : s.u1.take (j + 1) = s.u1.take j ++ [s.u1[j]] := List.take_succ_eq_append_getElem hjl
              have HTK := Lib.hid htake
              rw [hat] at hd2
              generalize s.u1[j] = d at *
              obtain ⟨due, at_, bs⟩ := d
              simp only at hat hcd hr5 hl4 hlm hd1 hd2
              have HR5 := Lib.hid hr5
              have HB9 := Lib.hid (HN9.out.blk.lt)
              clear hat hr5 htake
              have i0 : (0 : Int) ≤ j := by omega
              have i1 : (j : Int) < k := by omega
              have hosl : os.length ≤ j := by
                have h1 := congrArg List.length HMP.out
                have h2 := List.length_filterMap_le (fun d : Dg => openB d.b) (s.u1.take j)
                simp at h1 h2; omega
              have hbw : w.heap.size ≤ wr.heap.size := HF9.out.size
              have hbr : base ≤ wr.heap.size := by omega
              cases hob : openB bs with
              | some body =>
                have HOP := Lib.hid (fun W hW => open_some Ad bs body cd W hl4 hlm hcd hW hob)
                have HOB := Lib.hid hob
                have hrow1 := HBG.out.row
                have hol := hrow1.1
                clear hob hrow1 hol
                go_wp2_with (first
                  | (go_at_call 26; refine (HOP.out _ ((HR5.out.keep fun g cur hg => Below.heap_alloc wr _ g (Array.getElem?_eq_some_iff.1 hg).1).rd)).mono ?_; rintro e w2 ⟨A2, c2', rfl, hown2, hb2⟩
                     have hB2 : Below wr.heap.size wr w2 := below_then ((Below.refl _ wr).alloc (Nat.le_refl _) _) (by simp) hb2
                     have HN2 := Lib.hid (HN9.out.below hbr hB2)
                     have HG2 := Lib.hid (HBG.out.keep (K134.of_below hB2))
                     have HF2 := Lib.hid (HF9.out.trans (Fr.of_below hbr hB2))
                     have HX2 := Lib.hid (show OutAt w.heap.size w2 (.slice A2 body.length c2', body) from ⟨A2, c2', rfl, own_mono hown2 (by simp; omega)⟩)
                     clear hown2 hb2 hB2)
                  | (go_at_call 87; refine (add_any b 7 (tkT s.taken (s.u1.take j)) w2 _ 134 HN2.out.blk rfl (tkT_le _ _ htk)).mono ?_; rintro e w3 ⟨⟨v, rfl⟩, hb3, hg3, hs3⟩
                     have hup := HN2.out.upd (s' := { s with u1 := s.u1.drop k, taken := sat (tkT s.taken (s.u1.take j)), bad := tkB s.bad (s.u1.take j) }) hg3 hb3 rfl rfl rfl
                     have HN3 := Lib.hid hup.1
                     have HF3 := Lib.hid (HF2.out.trans hup.2)
                     have HG3 := Lib.hid (HG2.out.keep (K134.upd HN2.out.blk hg3))
                     have HX3 := Lib.hid (HX2.out.keep134 (K134.upd HN2.out.blk hg3))
                     have hbw3 : w.heap.size ≤ w3.heap.size := HF3.out.size
                     clear hb3 hg3 hs3 hup)
                  | (at_builtin
                     have hBa := (Below.refl _ w3).alloc (Nat.le_refl _) (Obj.cells #[.slice A2 body.length c2'] 23)
                     have HNa := Lib.hid (HN3.out.below (by omega) hBa)
                     have HGa := Lib.hid (HG3.out.keep (K134.of_below hBa))
                     have HFa := Lib.hid (HF3.out.trans (Fr.of_below (by omega) hBa))
                     have HXa := Lib.hid (HX3.out.keep134 (K134.of_below hBa))
                     have hrd1 : Rd (w3.alloc (Obj.cells #[.slice A2 body.length c2'] 23)) (some ⟨w3.heap.size, 0, none⟩) [.slice A2 body.length c2'] := by
                       intro j hj
                       refine ⟨_, 0, rfl, ?_⟩
                       rw [Nat.zero_add, (Blk.new w3 23 #[.slice A2 body.length c2']).cell]
                       match j, hj with
                       | 0, _ => rfl
                     refine wpList_append_rd rfl (.tmp 78) (.tmp 80) 56 rfl w.heap.size 23 (.slice none 0 0) 1 24 Try.underlying56 info23 rfl (by omega) (.slice A os.length c) os.length (os.map (·.1)) rfl HGa.out.row (some ⟨w3.heap.size, 0, none⟩) 1 1 [.slice A2 body.length c2'] rfl rfl hrd1 (by simp [Value.oneCell']) (by simp only [maxLen]; omega) (by omega) (by simp; omega) ?_
                     intro v4 w4 hown4 hg4 _
                     obtain ⟨A4, c4', rfl, hG4, hK4⟩ := HGa.out.more hown4 hg4 HXa.out
                     have HG4 := Lib.hid hG4
                     have HN4 := Lib.hid (HNa.out.keepT hK4)
                     have HF4 := Lib.hid (HFa.out.above hbs hg4 (fun g hg => (own_block HGa.out.row hg).1))
                     clear hown4 hg4 hG4 hK4 hrd1 hBa))
                refine ⟨⟨j + 1, by omega, by go_num, os ++ [(.slice A2 body.length c2', body)], A4, c4', by simp, HG4, ?_, ?_, HF4⟩, by simp [intOf]; omega⟩
                · show _ = _
                  rw [HTK.out, List.filterMap_append, List.map_append, HMP.out]
                  simp [HOB.out]
                · show NetAt _ _ _ _ _ _ _
                  have h9 := HN4.out
                  rw [HTK.out, tkT_snoc, tkB_snoc]
                  simp only [HOB.out, Option.isSome_some, if_true]
                  exact h9
              | none =>
                have HOP := Lib.hid (fun W hW => open_none Ad bs cd W hl4 hlm hcd hW hob)
                have HOB := Lib.hid hob
                clear hob
                go_wp2_with (first
                  | (go_at_call 26; refine (HOP.out _ ((HR5.out.keep fun g cur hg => Below.heap_alloc wr _ g (Array.getElem?_eq_some_iff.1 hg).1).rd)).mono ?_; rintro e w2 ⟨rfl, hb2⟩
                     have hB2 : Below wr.heap.size wr w2 := below_then ((Below.refl _ wr).alloc (Nat.le_refl _) _) (by simp) hb2
                     have HN2 := Lib.hid (HN9.out.below hbr hB2)
                     have HG2 := Lib.hid (HBG.out.keep (K134.of_below hB2))
                     have HF2 := Lib.hid (HF9.out.trans (Fr.of_below hbr hB2))
                     clear hb2 hB2)
                  | (go_at_call 87; refine (add_any b 8 (tkB s.bad (s.u1.take j)) w2 _ 134 HN2.out.blk rfl (tkB_le _ _ hbd)).mono ?_; rintro e w3 ⟨⟨v, rfl⟩, hb3, hg3, hs3⟩
                     have hup := HN2.out.upd (s' := { s with u1 := s.u1.drop k, taken := tkT s.taken (s.u1.take j), bad := sat (tkB s.bad (s.u1.take j)) }) hg3 hb3 rfl rfl rfl
                     have HN3 := Lib.hid hup.1
                     have HF3 := Lib.hid (HF2.out.trans hup.2)
                     have HG3 := Lib.hid (HG2.out.keep (K134.upd HN2.out.blk hg3))
                     clear hb3 hg3 hs3 hup))
                refine ⟨⟨j + 1, by omega, by go_num, os, A, c, rfl, HG3, ?_, ?_, HF3⟩, by simp [intOf]; omega⟩
                · show _ = _
                  rw [HTK.out, List.filterMap_append, HMP.out]
                  simp [HOB.out]
                · show NetAt _ _ _ _ _ _ _
                  have h9 := HN3.out
                  rw [HTK.out, tkT_snoc, tkB_snoc]
                  simp only [HOB.out, Option.isSome_none, Bool.false_eq_true, if_false]
                  exact h9
            · obtain rfl : j = k := by omega
              go_wp2
              go_ret
              have e1 : s.u1.take j = come s := hcl.out.1
              have e2 : s.u1.drop j = left s := hcl.out.2
              have h9 := HN9.out
              have hm := HMP.out
              rw [e1, e2] at h9
              rw [e1] at hm
              exact ⟨os, V8, A, c, rfl, HBG.out.row, HBG.out.outs, hm, h9, HF9.out⟩
        · clear hRd hkn
          go_wp2
          go_quiet (fail)
          go_wp2
          generalize m + nq = q
          have hki : (k : Int) ≤ s.u1.length := by omega
          have HC := Lib.hid (cloneD_any (some ⟨g, off + k * 2, none⟩) (s.u1.length - k) (n1 - k) ((dcells s.u1).drop (2 * k)) (w.drewN q).drew (by omega) (by simp [dcells_length]; omega) (rd_drop2 HR2.out) (fun u hu => dcells_one _ (fun d hd => by obtain ⟨A', c', e, _⟩ := H.out.r1.2 d hd; exact ⟨_, _, _, e⟩) u (List.mem_of_mem_drop hu)) (fun e => by cases e))
          have HEN := Lib.hid (callFunc_in (P := Try.prog) (f := 86) (fn := Try.f86) rfl (by kernel_rfl) (by kernel_rfl))
          go_region_law (refine step_call rfl 86 #[.tmp 51] #[124] rfl #[.slice (some ⟨g, off + k * 2, none⟩) (s.u1.length - k) (n1 - k)] (by simp [Act.eval, Act.put]) (HEN.out _) ((HC.out).mono ?_); rintro e W8 ⟨v8, rfl, hown8, hb8⟩; obtain ⟨A8, c8, rfl, _, _⟩ := own_slice hown8; refine ⟨_, rfl, ?_⟩; obtain ⟨t1, t2, HN8, HF8, HO8, HD8⟩ := take_mid (W0 := w) H.out hbs k (by omega) rfl ⟨hb8.os, hb8.tape, hb8.output, hb8.size, hb8.block⟩ hown8; clear hb8 hown8)
          generalize hWW : W8.setCell ⟨b, 4, none⟩ (.slice A8 (s.u1.length - k) c8) = W9 at HN8 HF8 HO8 HD8 ⊢
          generalize hVV : Value.slice A8 (s.u1.length - k) c8 = V8 at HN8
          clear hWW hVV t1 t2 HC HEN
          go_wp2
          go_loopw [4, 58] (fun lv iv wr => ∃ j : Nat, j ≤ k ∧ iv = .int .i64 j ∧ ∃ (os : List (Value × List UInt8)) (A : Option Addr) (c : Nat), lv = .slice A os.length c ∧ Hid (Bag w.heap.size base s.u1.length n1 (some ⟨g, off, none⟩) s.u1 os A c wr) ∧
            Hid (os.map (·.2) = (s.u1.take j).filterMap (fun d => openB d.b)) ∧ Hid (NetAt base wr b { s with u1 := s.u1.drop k, taken := tkT s.taken (s.u1.take j), bad := tkB s.bad (s.u1.take j) } F v0 V8) ∧ Hid (Fr base w wr)) (fun _ iv _ => k - (intOf iv).toNat)
          case atStart => exact ⟨0, by omega, rfl, [], none, 0, rfl, ⟨World.ownsRow_nil _ _ _ _, fun p hp => by simp at hp, HO8.out, HD8.out⟩, Lib.hid (by simp), HN8, HF8⟩
          case round =>
            obtain ⟨j, hj, rfl, os, A, c, rfl, HBG, HMP, HN9, HF9⟩ := hrel
            by_cases hjk : j < k
            · have hjl : j < s.u1.length := by omega
              obtain ⟨g', off', he, hd1, hd2⟩ := dat_cell (Rd.of_own HBG.out.old) j hjl
              injection he with he; injection he with e1 e2; subst e1; subst e2
              obtain ⟨Ad, cd, hat, hcd, hr5⟩ := HBG.out.dat s.u1[j] (List.getElem_mem _)
              obtain ⟨hl4, hlm⟩ := HLB.out s.u1[j] (List.getElem_mem _)
              have htake : s.u1.take (j + 1) = s.u1.take j ++ [s.u1[j]] := List.take_succ_eq_append_getElem hjl
              have HTK := Lib.hid htake
              rw [hat] at hd2
              generalize s.u1[j] = d at *
              obtain ⟨due, at_, bs⟩ := d
              simp only at hat hcd hr5 hl4 hlm hd1 hd2
              have HR5 := Lib.hid hr5
              have HB9 := Lib.hid (HN9.out.blk.lt)
              clear hat hr5 htake
              have i0 : (0 : Int) ≤ j := by omega
              have i1 : (j : Int) < k := by omega
              have hosl : os.length ≤ j := by
                have h1 := congrArg List.length HMP.out
                have h2 := List.length_filterMap_le (fun d : Dg => openB d.b) (s.u1.take j)
                simp at h1 h2; omega
              have hbw : w.heap.size ≤ wr.heap.size := HF9.out.size
              have hbr : base ≤ wr.heap.size := by omega
              cases hob : openB bs with
              | some body =>
                have HOP := Lib.hid (fun W hW => open_some Ad bs body cd W hl4 hlm hcd hW hob)
                have HOB := Lib.hid hob
                have hrow1 := HBG.out.row
                have hol := hrow1.1
                clear hob hrow1 hol
                go_wp2_with (first
                  | (go_at_call 26; refine (HOP.out _ ((HR5.out.keep fun g cur hg => Below.heap_alloc wr _ g (Array.getElem?_eq_some_iff.1 hg).1).rd)).mono ?_; rintro e w2 ⟨A2, c2', rfl, hown2, hb2⟩
                     have hB2 : Below wr.heap.size wr w2 := below_then ((Below.refl _ wr).alloc (Nat.le_refl _) _) (by simp) hb2
                     have HN2 := Lib.hid (HN9.out.below hbr hB2)
                     have HG2 := Lib.hid (HBG.out.keep (K134.of_below hB2))
                     have HF2 := Lib.hid (HF9.out.trans (Fr.of_below hbr hB2))
                     have HX2 := Lib.hid (show OutAt w.heap.size w2 (.slice A2 body.length c2', body) from ⟨A2, c2', rfl, own_mono hown2 (by simp; omega)⟩)
                     clear hown2 hb2 hB2)
                  | (go_at_call 87; refine (add_any b 7 (tkT s.taken (s.u1.take j)) w2 _ 134 HN2.out.blk rfl (tkT_le _ _ htk)).mono ?_; rintro e w3 ⟨⟨v, rfl⟩, hb3, hg3, hs3⟩
                     have hup := HN2.out.upd (s' := { s with u1 := s.u1.drop k, taken := sat (tkT s.taken (s.u1.take j)), bad := tkB s.bad (s.u1.take j) }) hg3 hb3 rfl rfl rfl
                     have HN3 := Lib.hid hup.1
                     have HF3 := Lib.hid (HF2.out.trans hup.2)
                     have HG3 := Lib.hid (HG2.out.keep (K134.upd HN2.out.blk hg3))
                     have HX3 := Lib.hid (HX2.out.keep134 (K134.upd HN2.out.blk hg3))
                     have hbw3 : w.heap.size ≤ w3.heap.size := HF3.out.size
                     clear hb3 hg3 hs3 hup)
                  | (at_builtin
                     have hBa := (Below.refl _ w3).alloc (Nat.le_refl _) (Obj.cells #[.slice A2 body.length c2'] 23)
                     have HNa := Lib.hid (HN3.out.below (by omega) hBa)
                     have HGa := Lib.hid (HG3.out.keep (K134.of_below hBa))
                     have HFa := Lib.hid (HF3.out.trans (Fr.of_below (by omega) hBa))
                     have HXa := Lib.hid (HX3.out.keep134 (K134.of_below hBa))
                     have hrd1 : Rd (w3.alloc (Obj.cells #[.slice A2 body.length c2'] 23)) (some ⟨w3.heap.size, 0, none⟩) [.slice A2 body.length c2'] := by
                       intro j hj
                       refine ⟨_, 0, rfl, ?_⟩
                       rw [Nat.zero_add, (Blk.new w3 23 #[.slice A2 body.length c2']).cell]
                       match j, hj with
                       | 0, _ => rfl
                     refine wpList_append_rd rfl (.tmp 78) (.tmp 80) 56 rfl w.heap.size 23 (.slice none 0 0) 1 24 Try.underlying56 info23 rfl (by omega) (.slice A os.length c) os.length (os.map (·.1)) rfl HGa.out.row (some ⟨w3.heap.size, 0, none⟩) 1 1 [.slice A2 body.length c2'] rfl rfl hrd1 (by simp [Value.oneCell']) (by simp only [maxLen]; omega) (by omega) (by simp; omega) ?_
                     intro v4 w4 hown4 hg4 _
                     obtain ⟨A4, c4', rfl, hG4, hK4⟩ := HGa.out.more hown4 hg4 HXa.out
                     have HG4 := Lib.hid hG4
                     have HN4 := Lib.hid (HNa.out.keepT hK4)
                     have HF4 := Lib.hid (HFa.out.above hbs hg4 (fun g hg => (own_block HGa.out.row hg).1))
                     clear hown4 hg4 hG4 hK4 hrd1 hBa))
                refine ⟨⟨j + 1, by omega, by go_num, os ++ [(.slice A2 body.length c2', body)], A4, c4', by simp, HG4, ?_, ?_, HF4⟩, by simp [intOf]; omega⟩
                · show _ = _
                  rw [HTK.out, List.filterMap_append, List.map_append, HMP.out]
                  simp [HOB.out]
                · show NetAt _ _ _ _ _ _ _
                  have h9 := HN4.out
                  rw [HTK.out, tkT_snoc, tkB_snoc]
                  simp only [HOB.out, Option.isSome_some, if_true]
                  exact h9
              | none =>
                have HOP := Lib.hid (fun W hW => open_none Ad bs cd W hl4 hlm hcd hW hob)
                have HOB := Lib.hid hob
                clear hob
                go_wp2_with (first
                  | (go_at_call 26; refine (HOP.out _ ((HR5.out.keep fun g cur hg => Below.heap_alloc wr _ g (Array.getElem?_eq_some_iff.1 hg).1).rd)).mono ?_; rintro e w2 ⟨rfl, hb2⟩
                     have hB2 : Below wr.heap.size wr w2 := below_then ((Below.refl _ wr).alloc (Nat.le_refl _) _) (by simp) hb2
                     have HN2 := Lib.hid (HN9.out.below hbr hB2)
                     have HG2 := Lib.hid (HBG.out.keep (K134.of_below hB2))
                     have HF2 := Lib.hid (HF9.out.trans (Fr.of_below hbr hB2))
                     clear hb2 hB2)
                  | (go_at_call 87; refine (add_any b 8 (tkB s.bad (s.u1.take j)) w2 _ 134 HN2.out.blk rfl (tkB_le _ _ hbd)).mono ?_; rintro e w3 ⟨⟨v, rfl⟩, hb3, hg3, hs3⟩
                     have hup := HN2.out.upd (s' := { s with u1 := s.u1.drop k, taken := tkT s.taken (s.u1.take j), bad := sat (tkB s.bad (s.u1.take j)) }) hg3 hb3 rfl rfl rfl
                     have HN3 := Lib.hid hup.1
                     have HF3 := Lib.hid (HF2.out.trans hup.2)
                     have HG3 := Lib.hid (HG2.out.keep (K134.upd HN2.out.blk hg3))
                     clear hb3 hg3 hs3 hup))
                refine ⟨⟨j + 1, by omega, by go_num, os, A, c, rfl, HG3, ?_, ?_, HF3⟩, by simp [intOf]; omega⟩
                · show _ = _
                  rw [HTK.out, List.filterMap_append, HMP.out]
                  simp [HOB.out]
                · show NetAt _ _ _ _ _ _ _
                  have h9 := HN3.out
                  rw [HTK.out, tkT_snoc, tkB_snoc]
                  simp only [HOB.out, Option.isSome_none, Bool.false_eq_true, if_false]
                  exact h9
            · obtain rfl : j = k := by omega
              go_wp2
              go_ret
              have e1 : s.u1.take j = come s := hcl.out.1
              have e2 : s.u1.drop j = left s := hcl.out.2
              have h9 := HN9.out
              have hm := HMP.out
              rw [e1, e2] at h9
              rw [e1] at hm
              exact ⟨os, V8, A, c, rfl, HBG.out.row, HBG.out.outs, hm, h9, HF9.out⟩
end Go.Proofs.Ytnbnghihmophpaa
