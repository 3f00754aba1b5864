/- copy at elements of more than one cell; slices.Insert at datagrams. -/
import Derived.Test.YtnbnghihmophpaaN0
import Derived.Lib.Overlaps
import Derived.Lib.AppendZerosOnto
import Derived.Laws.CopyRow
import Derived.StillTailTactics
namespace Go.Proofs.Ytnbnghihmophpaa
open Go.RowKit
set_option maxRecDepth 20000
set_option maxHeartbeats 1000000
set_option linter.unusedVariables false
set_option linter.unusedSimpArgs false

theorem run_copyK {P : Program} (k : Nat) (w : World) (dT sT ty elem : TypeId) (g o dLen dCap : Nat) (a : Addr) (sLen sCap : Nat) (cur : Array Value) (t : TypeId) (cs : List Value)
    (hu : P.underlying dT = some (.slice elem)) (hs : (P.info? elem).map (·.size) = some k)
    (hg : w.heap[g]? = some (.cells cur t (0, 0))) (hn : cs.length = Nat.min sLen dLen * k)
    (hsrc : ∀ j v, cs[j]? = some v → w.cell? (a.add j) = some v) (hfit : o + cs.length ≤ cur.size) (h1 : ∀ v ∈ cs, v.oneCell' = true) :
    (Builtin.copy_ #[dT, sT] ty #[.slice (some ⟨g, o, none⟩) dLen dCap, .slice (some a) sLen sCap]).run P w =
      .ok (goInt (Nat.min sLen dLen)) (w.setRow g (cur.toList.take o ++ cs ++ cur.toList.drop (o + cs.length)).toArray) := by
  have hl := run_loadCells_list (P := P) w a cs hsrc
  have hst := run_storeCells_at P g o t cs 0 cur w hg (by simpa using hfit) h1
  cases hq : P.info? elem with
  | none => simp [hq] at hs
  | some i =>
    have hi : i.size = k := by simpa [hq] using hs
    simp [Builtin.copy_, run_underlying hu, Builtin.lenOf, Builtin.firstCells, sizeOf, typeInfo, hq, hi, ← hn, hl, hst]

theorem wpList_copyK {P : Program} {ops : Array Oper} {rest : List Oper} {o : Oper} {a : Act} {w : World} {Q : Exit → Act → World → Prop} (hgd : o.guard = none) (d s : Operand) (T : TypeId)
    (ho : o.op = .call { callee := .builtin .copy, args := #[d, s], argTypes := #[T, T] }) (k : Nat) (elem : TypeId) (hu : P.underlying T = some (.slice elem)) (hs : (P.info? elem).map (·.size) = some k)
    (g off dLen dCap : Nat) (ad : Addr) (sLen sCap : Nat) (cur : Array Value) (t : TypeId) (cs : List Value)
    (hd : a.eval d = .slice (some ⟨g, off, none⟩) dLen dCap) (hx : a.eval s = .slice (some ad) sLen sCap)
    (hg : Blk w g t cur) (hn : cs.length = Nat.min sLen dLen * k)
    (hsrc : ∀ j v, cs[j]? = some v → w.cell? (ad.add j) = some v) (hfit : off + cs.length ≤ cur.size) (h1 : ∀ v ∈ cs, v.oneCell' = true)
    (h : ∀ w1, Blk w1 g t (cur.toList.take off ++ cs ++ cur.toList.drop (off + cs.length)).toArray → w.grownBy w1 (some g) → w1.heap.size = w.heap.size → wpList P ops Q rest (a.put o.dst (goInt (Nat.min sLen dLen))) w1) : wpList P ops Q (o :: rest) a w :=
  wpList_plain hgd fun K hK => by
    have hrun := run_copyK (P := P) k w T T o.type elem g off dLen dCap ad sLen sCap cur t cs hu hs hg hn hsrc hfit h1
    unfold Oper.wp execOp
    simp only [ho, resolve, invoke, builtin, Sem.run_bind, Sem.run_pure, Result.andThen_ok, List.map_toArray, List.map_cons, List.map_nil, hd, hx, hrun]
    exact hK _ _ (h _ (setRow_heap w g cur _ t _ hg) ⟨rfl, rfl, rfl, by simp, fun k _ hk => setRow_other w g k _ (fun e => hk (by rw [e]))⟩ (by simp))

theorem run_copyK_ex {P : Program} (k : Nat) (w : World) (T elem : TypeId) (g o dLen dCap : Nat) (a : Addr) (sLen sCap : Nat) (cur : Array Value) (t : TypeId) (cs : List Value)
    (hu : P.underlying T = some (.slice elem)) (hs : (P.info? elem).map (·.size) = some k)
    (hg : Blk w g t cur) (hn : cs.length = Nat.min sLen dLen * k)
    (hsrc : ∀ j v, cs[j]? = some v → w.cell? (a.add j) = some v) (hfit : o + cs.length ≤ cur.size) (h1 : ∀ v ∈ cs, v.oneCell' = true) :
    ∃ w1, (∀ ty, (Builtin.copy_ #[T, T] ty #[.slice (some ⟨g, o, none⟩) dLen dCap, .slice (some a) sLen sCap]).run P w = .ok (goInt (Nat.min sLen dLen)) w1) ∧
      Blk w1 g t (cur.toList.take o ++ cs ++ cur.toList.drop (o + cs.length)).toArray ∧ w.grownBy w1 (some g) ∧ w1.heap.size = w.heap.size :=
  ⟨_, fun ty => run_copyK (P := P) k w T T ty elem g o dLen dCap a sLen sCap cur t cs hu hs hg hn hsrc hfit h1, setRow_heap w g cur _ t _ hg, ⟨rfl, rfl, rfl, by simp, fun k _ hk => setRow_other w g k _ (fun e => hk (by rw [e]))⟩, by simp⟩

theorem info141 : (Try.prog.info? 141).map (fun i => (i.zero, i.size, i.bytes)) = some (some (.agg #[.int .u64 0, .slice none 0 0]), 2, 32) := by kernel_rfl

theorem insert_end (base n : Nat) (v : Value) (xs : List Value) (nb : Nat) (x y : Value) (w : World) (hn : n ≤ 1000000) (hown : w.ownsRow base 141 2 v n xs) (hbase : base ≤ w.heap.size)
    (hx : x.oneCell' = true) (hy : y.oneCell' = true) (hnb : Blk w nb 141 #[x, y]) :
    Calls Try.prog 122 #[v, .int .i64 n, .slice (some ⟨nb, 0, none⟩) 1 1] w fun e w' => ∃ v', e = .returned v' ∧ w'.ownsRow base 141 2 v' (n + 1) (xs ++ [x, y]) ∧
      w.grownBy w' v.ownBlock ∧ (v'.ownBlock = v.ownBlock ∨ v'.ownBlock = some w.heap.size) := by
  have hrd : Rd w (some ⟨nb, 0, none⟩) [x, y] := by
    intro j hj
    refine ⟨nb, 0, rfl, ?_⟩
    rw [Nat.zero_add, hnb.cell]
    match j, hj with
    | 0, _ => rfl
    | 1, _ => rfl
  have h1 : ∀ u ∈ [x, y], u.oneCell' = true := by simp [hx, hy]
  obtain ⟨A, c, rfl, hnc, hcm⟩ := own_slice hown
  have h0 : (0 : Int) ≤ n := by omega
  go_enter Try.func122, Try.ntmps122
  go_wp2_with (at_builtin; refine wpList_append_rd rfl (.tmp 23) (.tmp 24) 124 rfl base 141 _ 2 32 Try.underlying124 info141 rfl (by omega) (.slice A n c) n xs rfl hown (some ⟨nb, 0, none⟩) 1 1 [x, y] rfl (by simp) hrd h1 (by simp only [maxLen]; omega) (by omega) hbase ?_; intro v1 w1 hown1 hg hb)
  all_goals (go_ret; exact ⟨v1, rfl, hown1, by cases A <;> exact hg, by cases A <;> exact hb⟩)

theorem hov (w : World) (nb g off : Nat) (x y : Value) (cur : Array Value) (hne : nb ≠ g) (hnb : Blk w nb 141 #[x, y]) (hg : Blk w g 141 cur) (hc : cur.size ≠ 0) (lb cb : Nat) :
    (callFunc 124 #[.slice (some ⟨nb, 0, none⟩) 1 1, .slice (some ⟨g, off, none⟩) lb cb]).run Try.prog w = .ok (.value (.bool false)) w := by
  have h1 : w.shape? nb = some (141, 2) := by unfold Blk at hnb; simp [World.shape?, hnb]
  have h2 : w.shape? g = some (141, cur.size) := by unfold Blk at hg; simp [World.shape?, hg]
  rw [run_callFunc_extern (f := 124) (e := Extern.SlicesOverlaps.overlaps #[124, 124] #[4]) rfl (by kernel_rfl) (by kernel_rfl) (by kernel_rfl) (by kernel_rfl),
    Lib.run_overlaps_apart w 124 4 141 Try.underlying124 2 (fun w => by kernel_rfl) ⟨nb, 0, none⟩ ⟨g, off, none⟩ 1 1 lb cb hne 141 141 2 cur.size h1 h2 hc (hnb.frozen 0) (hnb.frozen 2)]
  rfl

theorem shift_list {α : Type} (L : List α) (n at_ cap : Nat) (x y : α) (hL : L.length = cap * 2) (hat : at_ < n) (hc : n + 1 ≤ cap) (X C1 C2 : List α) (hX : X = L.take (n * 2))
    (h1 : C1 = L.take ((at_ + 1) * 2) ++ X.drop (2 * at_) ++ L.drop ((at_ + 1) * 2 + (X.drop (2 * at_)).length)) (h2 : C2 = C1.take (at_ * 2) ++ [x, y] ++ C1.drop (at_ * 2 + [x, y].length)) :
    C1.length = cap * 2 ∧ C2.length = cap * 2 ∧ C2.take ((n + 1) * 2) = X.take (2 * at_) ++ [x, y] ++ X.drop (2 * at_) := by
  have hXl : X.length = n * 2 := by subst hX; simp [hL]; omega
  have hl1 : C1.length = cap * 2 := by subst h1; simp [hL, hXl]; omega
  have hl2 : C2.length = cap * 2 := by subst h2; simp [hl1]; omega
  refine ⟨hl1, hl2, ?_⟩
  have e1 : C1.take (at_ * 2) = X.take (2 * at_) := by
    subst h1; subst hX
    rw [List.append_assoc, List.take_append_of_le_length (by simp [hL]; omega), List.take_take, List.take_take]
    congr 1; omega
  have e2 : C1.drop (at_ * 2 + [x, y].length) = X.drop (2 * at_) ++ L.drop ((at_ + 1) * 2 + (X.drop (2 * at_)).length) := by
    subst h1
    rw [List.append_assoc, List.drop_left' (by simp [hL]; omega)]
  rw [h2, e1, e2, ← List.append_assoc, List.take_left' (by simp [hXl]; omega)]

theorem insert_shift (base n at_ g cap nb : Nat) (cur : Array Value) (x y : Value) (w : World) (hn : n ≤ 1000000) (hat : at_ < n) (hroom : n + 1 ≤ cap) (hcap : cap ≤ maxLen) (hg : Blk w g 141 cur) (hsz : cur.size = cap * 2)
    (hx1 : ∀ u ∈ cur.toList.take (n * 2), u.oneCell' = true)
    (hx : x.oneCell' = true) (hy : y.oneCell' = true) (hnb : Blk w nb 141 #[x, y]) (hne : nb ≠ g) :
    Calls Try.prog 122 #[.slice (some ⟨g, 0, none⟩) n cap, .int .i64 at_, .slice (some ⟨nb, 0, none⟩) 1 1] w fun e w' => e = .returned (.slice (some ⟨g, 0, none⟩) (n + 1) cap) ∧
      ∃ cur', Blk w' g 141 cur' ∧ cur'.size = cap * 2 ∧ cur'.toList.take ((n + 1) * 2) = (cur.toList.take (n * 2)).take (2 * at_) ++ [x, y] ++ (cur.toList.take (n * 2)).drop (2 * at_) ∧ w.grownBy w' (some g) := by
  have h0 : (0 : Int) ≤ at_ := by omega
  have h2 : ¬ ((at_ : Int) = n) := by omega
  have hcapn : cap ≤ 9223372036854775807 := by simpa [maxLen] using hcap
  have hw1 : IntKind.i64.wrap ((at_ : Int) + 1) = (at_ : Int) + 1 := by rw [IntKind.wrap_i64]; omega
  have hw2 : IntKind.i64.wrap ((n : Int) + 1) = (n : Int) + 1 := by rw [IntKind.wrap_i64]; omega
  have hb1 : (0 : Int) ≤ (at_ : Int) + 1 := by omega
  have hb2 : (at_ : Int) + 1 ≤ (n : Int) + 1 := by omega
  have htn : ((at_ : Int) + 1).toNat = at_ + 1 := by omega
  have hb3 : (at_ : Int) ≤ (n : Int) + 1 := by omega
  have hb4 : ¬ (cap = at_ + 1) := by omega
  have hb5 : ¬ (cap = at_) := by omega
  have hb6 : ¬ (cap ≤ at_ + 1) := by omega
  have hb7 : ¬ (cap ≤ at_) := by omega
  have hb8 : at_ + 1 ≤ n + 1 := by omega
  have hb9 : at_ ≤ n + 1 := by omega
  have HO := Lib.hid (fun off => hov w nb g off x y cur hne hnb hg (by omega))
  obtain ⟨X, hX⟩ : ∃ X, X = cur.toList.take (n * 2) := ⟨_, rfl⟩
  have hcl : cur.toList.length = cap * 2 := by simpa using hsz
  obtain ⟨C1, hC1⟩ : ∃ C1, C1 = cur.toList.take ((at_ + 1) * 2) ++ X.drop (2 * at_) ++ cur.toList.drop ((at_ + 1) * 2 + (X.drop (2 * at_)).length) := ⟨_, rfl⟩
  obtain ⟨C2, hC2⟩ : ∃ C2, C2 = C1.take (at_ * 2) ++ [x, y] ++ C1.drop (at_ * 2 + [x, y].length) := ⟨_, rfl⟩
  obtain ⟨hl1, hl2, htk⟩ := shift_list cur.toList n at_ cap x y hcl hat hroom X C1 C2 hX hC1 hC2
  have hXl : X.length = n * 2 := by rw [hX]; simp [hsz]; omega
  rw [← hX] at hx1
  have hd1 : ∀ u ∈ X.drop (2 * at_), u.oneCell' = true := fun u hu => hx1 u (List.mem_of_mem_drop hu)
  have hdl : (X.drop (2 * at_)).length = Nat.min (n + 1 - at_) (n - at_) * 2 := by
    have : Nat.min (n + 1 - at_) (n - at_) = n - at_ := by show min _ _ = _; omega
    rw [List.length_drop, hXl, this]; omega
  have hsrc : ∀ W, Blk W g 141 cur → ∀ j v, (X.drop (2 * at_))[j]? = some v → W.cell? ((⟨g, at_ * 2, none⟩ : Addr).add j) = some v := by
    intro W hW j v hj
    have hj' : 2 * at_ + j < X.length := by
      have := (List.getElem?_eq_some_iff.1 hj).1
      simp at this; omega
    rw [show (⟨g, at_ * 2, none⟩ : Addr).add j = ⟨g, at_ * 2 + j, none⟩ from by unfold Addr.add; split <;> simp_all, hW.cell]
    rw [List.getElem?_drop, hX, List.getElem?_take, if_pos (by omega)] at hj
    rw [← Array.getElem?_toList, ← hj]; congr 1; omega
  have hsrc2 : ∀ W, Blk W nb 141 #[x, y] → ∀ j v, [x, y][j]? = some v → W.cell? ((⟨nb, 0, none⟩ : Addr).add j) = some v := by
    intro W hW j v hj
    rw [show (⟨nb, 0, none⟩ : Addr).add j = ⟨nb, j, none⟩ from by unfold Addr.add; split <;> simp_all, hW.cell]
    match j, hj with
    | 0, hj => exact hj
    | 1, hj => exact hj
  have h11 : ∀ u ∈ [x, y], u.oneCell' = true := by simp [hx, hy]
  have H1 := Lib.hid hC1
  have H2 := Lib.hid hC2
  have HT := Lib.hid htk
  have HXX := Lib.hid hX
  have HSZ := Lib.hid hsz
  have HDL := Lib.hid hdl
  have HSR := Lib.hid hsrc
  have HSR2 := Lib.hid hsrc2
  have HL1 := Lib.hid hl1
  have HL2 := Lib.hid hl2
  have HXL := Lib.hid hXl
  clear hC1 hC2 htk hX hsz hdl hsrc hsrc2 hl1 hl2 hXl hcl
  go_enter Try.func122, Try.ntmps122
  go_wp2_with (simp only [HO.out])
  go_still_tail 8, (by kernel_rfl)
  change wpList _ _ _ _ _ w.drew
  have hgd : Blk w.drew g 141 cur := hg
  refine wpList_copyK rfl (.tmp 73) (.tmp 76) 124 rfl 2 141 Try.underlying124 (by kernel_rfl) g ((at_ + 1) * 2) _ _ ⟨g, at_ * 2, none⟩ _ _ cur 141 (X.drop (2 * at_)) rfl rfl hgd HDL.out (HSR.out _ hgd) (by rw [List.length_drop, HXL.out, HSZ.out]; omega) hd1 ?_
  rw [← H1.out]; intro w1 hg1 hgr1 hs1
  have hgr0 : w.grownBy w1 (some g) := ⟨hgr1.os, hgr1.tape, hgr1.output, hgr1.size, hgr1.block⟩
  have hs0 : w1.heap.size = w.heap.size := hs1
  have hnb1 : Blk w1 nb 141 #[x, y] := hnb.grown hgr0 (by simpa using hne)
  clear hs1
  obtain ⟨w2, hrun2, hg2, hgr2, hs2⟩ := run_copyK_ex (P := Try.prog) 2 w1 124 141 g (at_ * 2) (n + 1 - at_) (cap - at_) ⟨nb, 0, none⟩ 1 1 C1.toArray 141 [x, y] Try.underlying124 (by kernel_rfl) hg1 (by have : Nat.min 1 (n + 1 - at_) = 1 := (by show min _ _ = _; omega); rw [this]; rfl) (HSR2.out _ hnb1) (by simp [HL1.out]; omega) h11
  have hg2' := Lib.hid (show Blk w2 g 141 C2.toArray by rw [H2.out]; exact hg2)
  have HS2 := Lib.hid hs2
  clear hg2 hs2
  go_wp2_with (simp only [hrun2])
  go_ret
  refine ⟨rfl, C2.toArray, hg2'.out, by simp [HL2.out], HT.out.trans (by rw [HXX.out]), ?_⟩
  exact ⟨hgr2.os.trans hgr0.os, hgr2.tape.trans hgr0.tape, hgr2.output.trans hgr0.output, by rw [HS2.out, hs0]; exact Nat.le_refl _, fun k hk hne' => (hgr2.block k (by rw [hs0]; exact hk) hne').trans (hgr0.block k hk hne')⟩
end Go.Proofs.Ytnbnghihmophpaa
