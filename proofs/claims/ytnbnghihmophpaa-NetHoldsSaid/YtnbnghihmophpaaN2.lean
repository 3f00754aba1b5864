/- slices.Insert at datagrams where a new row is made; and all its ways together. -/
import Derived.Test.YtnbnghihmophpaaN1
namespace Go.Proofs.Ytnbnghihmophpaa
open Go.RowKit
set_option maxRecDepth 20000
set_option maxHeartbeats 1000000
set_option linter.unusedVariables false
set_option linter.unusedSimpArgs false

theorem grow_list {α : Type} (R : List α) (n at_ G : Nat) (x y : α) (hR : R.length = G * 2) (hat : at_ < n) (hc : n + 1 ≤ G) (X C1 C2 : List α) (hX : X.length = n * 2) (hP : R.take (at_ * 2) = X.take (2 * at_))
    (h1 : C1 = R.take (at_ * 2) ++ [x, y] ++ R.drop (at_ * 2 + [x, y].length)) (h2 : C2 = C1.take ((at_ + 1) * 2) ++ X.drop (2 * at_) ++ C1.drop ((at_ + 1) * 2 + (X.drop (2 * at_)).length)) :
    C1.length = G * 2 ∧ C2.length = G * 2 ∧ C2.take ((n + 1) * 2) = X.take (2 * at_) ++ [x, y] ++ X.drop (2 * at_) := by
  have hl1 : C1.length = G * 2 := by subst h1; simp [hR]; omega
  have hl2 : C2.length = G * 2 := by subst h2; simp [hl1, hX]; omega
  refine ⟨hl1, hl2, ?_⟩
  have e1 : C1.take ((at_ + 1) * 2) = X.take (2 * at_) ++ [x, y] := by
    subst h1; rw [List.take_left' (by simp [hR]; omega), hP]
  rw [h2, e1, List.take_left' (by simp [hX]; omega)]

/-- A copy whose run is known. -/
theorem wpList_copy_run2 {P : Program} {ops : Array Oper} {rest : List Oper} {o : Oper} {a : Act} {w : World} {Q : Exit → Act → World → Prop} (hgd : o.guard = none) (s x : Operand) (ts : Array TypeId)
    (ho : o.op = .call { callee := .builtin .copy, args := #[s, x], argTypes := ts })
    (v u r : Value) (w1 : World) (hs : a.eval s = v) (hx : a.eval x = u) (hrun : (Builtin.copy_ ts o.type #[v, u]).run P w = .ok r w1)
    (h : wpList P ops Q rest (a.put o.dst r) w1) : wpList P ops Q (o :: rest) a w :=
  wpList_plain hgd fun _ hK => by
    unfold Oper.wp execOp
    simp only [ho, resolve, invoke, builtin, Sem.run_bind, Sem.run_pure, Result.andThen_ok, List.map_toArray, List.map_cons, List.map_nil, hs, hx, hrun]
    exact hK _ _ h

theorem grown_row (w : World) (n at_ g cap : Nat) (cur : Array Value) (hn : n ≤ 1000000) (hat : at_ < n) (hroom : cap < n + 1) (hnc : n ≤ cap) (hg : Blk w g 141 cur) (hsz : cur.size = cap * 2) :
    ∃ W1 G ROW, (∀ ty, (Builtin.append_ #[124, 3] ty #[.slice (some ⟨g, 0, none⟩) at_ cap, .int .i64 ((n : Int) + 1 - at_)]).run Try.prog w = .ok (.slice (some ⟨w.heap.size, 0, none⟩) (n + 1) G) W1) ∧
      Blk W1 w.heap.size 141 ROW ∧ ROW.toList.length = G * 2 ∧ n + 1 ≤ G ∧ G ≤ maxLen ∧ ROW.toList.take (at_ * 2) = (cur.toList.take (n * 2)).take (2 * at_) ∧ Below w.heap.size w W1 ∧ W1.heap.size = w.heap.size + 1 := by
  obtain ⟨i0, hi0, hz0, hzs, hzb⟩ : ∃ i, Try.prog.info? 141 = some i ∧ i.zero = some (.agg #[.int .u64 0, .slice none 0 0]) ∧ i.size = 2 ∧ i.bytes = 32 := by
    obtain ⟨i, hi, hzz⟩ := Option.map_eq_some_iff.1 info141
    simp only [Prod.mk.injEq] at hzz
    exact ⟨i, hi, hzz.1, hzz.2.1, hzz.2.2⟩
  have hold : (Builtin.firstCells i0.size at_ (.slice (some ⟨g, 0, none⟩) at_ cap)).run Try.prog w.drew = .ok (cur.toList.take (at_ * 2)).toArray w.drew := by
    rw [hzs]
    refine run_firstCells_some w.drew 2 at_ ⟨g, 0, none⟩ at_ cap (cur.toList.take (at_ * 2)) (by simp [hsz]; omega) (fun j v hj => ?_)
    rw [show (⟨g, 0, none⟩ : Addr).add j = ⟨g, j, none⟩ from by unfold Addr.add; split <;> simp_all]
    have hgd : Blk w.drew g 141 cur := hg
    rw [hgd.cell]
    rw [List.getElem?_take] at hj
    split at hj
    · rw [← Array.getElem?_toList]; exact hj
    · cases hj
  have hkk : (n : Int) + 1 - at_ = ((n + 1 - at_ : Nat) : Int) := by omega
  have hik : at_ + (n + 1 - at_) = n + 1 := by omega
  have hrz := fun ty => Lib.run_append_grow_zeros w 124 3 ty 141 i0 _ .i64 .i64 Try.underlying124 Try.underlying3 hi0 hz0 (some ⟨g, 0, none⟩) at_ cap (cur.toList.take (at_ * 2)) hold (n + 1 - at_) (by omega) (by omega) (by omega) (by omega) (by rw [hzb]; omega) (by rw [hzb, hik]; exact growslice_fits (by omega) (by omega))
  rw [hik, ← hkk] at hrz
  refine ⟨_, _, _, hrz, Blk.new w.drew _ _, ?_, grownCap_ge w _ _ _, grownCap_le_maxLen w _ _ _ (by simp only [maxLen]; omega), ?_, (Below.refl _ w).drew.alloc (Nat.le_refl _) _, by simp⟩
  · have := grownCap_ge w (n + 1) cap 141
    simp [Builtin.zeroCells, Value.cells, hsz]; omega
  · rw [Array.toList_append, Array.toList_append, List.append_assoc, List.take_left' (by simp [hsz]; omega)]
    simp only [List.take_take]; congr 1; omega

theorem insert_grow (base n at_ g cap nb : Nat) (cur : Array Value) (x y : Value) (w : World) (hn : n ≤ 1000000) (hat : at_ < n) (hroom : cap < n + 1) (hnc : n ≤ cap) (hg : Blk w g 141 cur) (hsz : cur.size = cap * 2)
    (hx1 : ∀ u ∈ cur.toList.take (n * 2), u.oneCell' = true)
    (hx : x.oneCell' = true) (hy : y.oneCell' = true) (hnb : Blk w nb 141 #[x, y]) :
    Calls Try.prog 122 #[.slice (some ⟨g, 0, none⟩) n cap, .int .i64 at_, .slice (some ⟨nb, 0, none⟩) 1 1] w fun e w' => ∃ G cur', e = .returned (.slice (some ⟨w.heap.size, 0, none⟩) (n + 1) G) ∧
      n + 1 ≤ G ∧ G ≤ maxLen ∧ Blk w' w.heap.size 141 cur' ∧ cur'.size = G * 2 ∧ cur'.toList.take ((n + 1) * 2) = (cur.toList.take (n * 2)).take (2 * at_) ++ [x, y] ++ (cur.toList.take (n * 2)).drop (2 * at_) ∧ Below w.heap.size w w' := by
  obtain ⟨W1, G, ROW, hrz, hb1, hRl, hG1, hG2, hRt, hbl, hW1s⟩ := grown_row w n at_ g cap cur hn hat hroom hnc hg hsz
  have hglt := hg.lt
  have hnlt := hnb.lt
  obtain ⟨N, hN⟩ : ∃ N, N = w.heap.size := ⟨_, rfl⟩
  rw [← hN] at hrz hb1 hbl hW1s hglt hnlt ⊢
  obtain ⟨X, hX⟩ : ∃ X, X = cur.toList.take (n * 2) := ⟨_, rfl⟩
  rw [← hX] at hx1 hRt ⊢
  obtain ⟨C1, hC1⟩ : ∃ C1, C1 = ROW.toList.take (at_ * 2) ++ [x, y] ++ ROW.toList.drop (at_ * 2 + [x, y].length) := ⟨_, rfl⟩
  obtain ⟨C2, hC2⟩ : ∃ C2, C2 = C1.take ((at_ + 1) * 2) ++ X.drop (2 * at_) ++ C1.drop ((at_ + 1) * 2 + (X.drop (2 * at_)).length) := ⟨_, rfl⟩
  have hXl : X.length = n * 2 := by rw [hX]; simp [hsz]; omega
  obtain ⟨hl1, hl2, htk⟩ := grow_list ROW.toList n at_ G x y hRl hat hG1 X C1 C2 hXl hRt hC1 hC2
  have h11 : ∀ u ∈ [x, y], u.oneCell' = true := by simp [hx, hy]
  have hd1 : ∀ u ∈ X.drop (2 * at_), u.oneCell' = true := fun u hu => hx1 u (List.mem_of_mem_drop hu)
  have hnbW : Blk W1 nb 141 #[x, y] := hnb.below hbl (by omega)
  have hgW : Blk W1 g 141 cur := hg.below hbl (by omega)
  obtain ⟨W2, hrun1, hg1, hgr1, hs1⟩ := run_copyK_ex (P := Try.prog) 2 W1 124 141 N (at_ * 2) (n + 1 - at_) (G - at_) ⟨nb, 0, none⟩ 1 1 ROW 141 [x, y] Try.underlying124 (by kernel_rfl) hb1 (by have : Nat.min 1 (n + 1 - at_) = 1 := (by show min _ _ = _; omega); rw [this]; rfl)
    (by
      intro j v hj
      rw [show (⟨nb, 0, none⟩ : Addr).add j = ⟨nb, j, none⟩ from by unfold Addr.add; split <;> simp_all, hnbW.cell]
      match j, hj with
      | 0, hj => exact hj
      | 1, hj => exact hj) (by simp at hRl ⊢; omega) h11
  rw [← hC1] at hg1
  have hgW2' : Blk W2 g 141 cur := hgW.grown hgr1 (by simp; omega)
  have hgW2 : Blk W2.drew g 141 cur := hgW2'
  have hg1d : Blk W2.drew N 141 C1.toArray := hg1
  obtain ⟨W3, hrun2, hg2, hgr2, hs2⟩ := run_copyK_ex (P := Try.prog) 2 W2.drew 124 141 N ((at_ + 1) * 2) (n - at_) (G - (at_ + 1)) ⟨g, at_ * 2, none⟩ (n - at_) (cap - at_) C1.toArray 141 (X.drop (2 * at_)) Try.underlying124 (by kernel_rfl) hg1d
    (by have : Nat.min (n - at_) (n - at_) = n - at_ := (by show min _ _ = _; omega); rw [this, List.length_drop, hXl]; omega)
    (by
      intro j v hj
      have hj' : 2 * at_ + j < X.length := by
        have := (List.getElem?_eq_some_iff.1 hj).1
        simp at this; omega
      rw [show (⟨g, at_ * 2, none⟩ : Addr).add j = ⟨g, at_ * 2 + j, none⟩ from by unfold Addr.add; split <;> simp_all, hgW2.cell]
      rw [List.getElem?_drop, hX, List.getElem?_take, if_pos (by omega)] at hj
      rw [← Array.getElem?_toList, ← hj]; congr 1; omega) (by simp [hl1, hXl]; omega) hd1
  have hg2' : Blk W3 N 141 C2.toArray := by rw [hC2]; exact hg2
  have h0 : (0 : Int) ≤ at_ := by omega
  have h2 : ¬ ((at_ : Int) = n) := by omega
  have hGn : G ≤ 9223372036854775807 := by simpa [maxLen] using hG2
  have hw1 : IntKind.i64.wrap ((at_ : Int) + 1) = (at_ : Int) + 1 := by rw [IntKind.wrap_i64]; omega
  have hw2 : IntKind.i64.wrap ((n : Int) + 1) = (n : Int) + 1 := by rw [IntKind.wrap_i64]; omega
  have hw3 : IntKind.i64.wrap ((n : Int) + 1 - at_) = (n : Int) + 1 - at_ := by rw [IntKind.wrap_i64]; omega
  have hi1 : (0 : Int) ≤ (at_ : Int) + 1 := by omega
  have hi2 : (at_ : Int) + 1 ≤ (n : Int) + 1 := by omega
  have htn : ((at_ : Int) + 1).toNat = at_ + 1 := by omega
  have hi3 : (at_ : Int) ≤ (n : Int) + 1 := by omega
  have hi4 : ¬ (G = at_ + 1) := by omega
  have hi5 : ¬ (G = at_) := by omega
  have hi6 : ¬ (cap = at_) := by omega
  have hi7 : (at_ : Int) ≤ (n : Int) := by omega
  have hcn : cap = n := by omega
  have hi8 : (cap : Int) < (n : Int) + 1 := by omega
  have HB := Lib.hid (show Below N w W3 by
    refine ⟨?_, ?_, ?_, ?_, fun k hk => ?_⟩
    · exact hgr2.os.trans (hgr1.os.trans hbl.os)
    · exact hgr2.tape.trans (hgr1.tape.trans hbl.tape)
    · exact hgr2.output.trans (hgr1.output.trans hbl.output)
    · rw [hs2]; show _ ≤ W2.heap.size; rw [hs1]; exact hbl.size
    · exact ((hgr2.block k (by show k < W2.heap.size; rw [hs1, hW1s]; omega) (by simp; omega)).trans (hgr1.block k (by rw [hW1s]; omega) (by simp; omega))).trans (hbl.block k hk))
  have HT := Lib.hid htk
  have HG := Lib.hid hg2'
  have HL2 := Lib.hid hl2
  have HR2 := Lib.hid hrun2
  clear htk hg2' hg2 hl2 hrun2 hgW2' hC1 hC2 hX hXl hRl hRt hb1 hg1 hg1d hgW hgW2 hnbW hgr1 hgr2 hs1 hs2 hW1s hl1 hN hcn hsz
  go_enter Try.func122, Try.ntmps122
  go_wp2_with (first | (at_builtin; refine wpList_append_run rfl (.tmp 34) (.tmp 39) #[124, 3] rfl _ _ _ _ rfl rfl (hrz _) ?_) | simp only [hrz, hrun1])
  go_still_tail 8, (by kernel_rfl)
  change wpList _ _ _ _ _ W2.drew
  refine wpList_copy_run2 rfl (.tmp 50) (.tmp 53) #[124, 124] rfl _ _ _ _ rfl rfl (HR2.out _) ?_
  go_wp2
  go_ret
  exact ⟨G, C2.toArray, rfl, hG1, hG2, HG.out, by simp [HL2.out], HT.out, HB.out⟩
end Go.Proofs.Ytnbnghihmophpaa
