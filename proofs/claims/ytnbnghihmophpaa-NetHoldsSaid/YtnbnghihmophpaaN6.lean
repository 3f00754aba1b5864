/- The net: a datagram put under way. -/
import Derived.Test.YtnbnghihmophpaaN5
import Derived.Deep.RegionLaw
namespace Go.Proofs.Ytnbnghihmophpaa
open Go.RowKit
set_option maxRecDepth 20000
set_option maxHeartbeats 2000000
set_option linter.unusedVariables false
set_option linter.unusedSimpArgs false

theorem callFunc_in {P : Program} {f : FuncId} {fn : Func} (hf : P.funcs[f]? = some fn) (hname : (fn.name == "runtime.NumGoroutine") = false) (hb : fn.body.isSome = true) (args : Array Value) (w : World) :
    (callFunc f args).run P w = .ok (.enter f args) w := by
  obtain ⟨c, hc⟩ := Option.isSome_iff_exists.1 hb
  have h1 : fn.name ≠ "runtime.NumGoroutine" := by simpa using hname
  simp [callFunc, hf, h1, hc]
/-- A call of a Go function as one step of a region that draws. -/
theorem step_call {P : Program} {ops : Array Oper} {o : Oper} {a : Act} {w : World} {K : Act → World → Prop} {Q : Exit → Act → World → Prop} {E : Prop}
    (hg : o.guard = none) (f : FuncId) (xs : Array Operand) (ts : Array TypeId) (ho : o.op = .call { callee := .value (.func f), args := xs, argTypes := ts }) (args : Array Value) (ha : xs.map a.eval = args)
    (hent : ∀ w, (callFunc f args).run P w = .ok (.enter f args) w) (hc : Calls P f args w fun e w' => ∃ v, e = .returned v ∧ K (a.put o.dst v) w') :
    if Region.wanted o (yielded ops a.tmps) = true then Oper.wp P o a w K Q else E := by
  have hw : Region.wanted o (yielded ops a.tmps) = true := by simp [Region.wanted, hg]
  rw [if_pos hw]
  have hrun : (execOp a.eval o).run P w = .ok (.enter f args) w := by
    simp [execOp, ho, resolve, invoke, Deferred.ofValue, Act.eval, ha]
    exact hent w
  unfold Oper.wp
  rw [hrun]
  exact hc.mono fun e w' ⟨v, he, hk⟩ => by subst he; exact hk

def later (now by_ : Nat) : Nat := if now + by_ ≤ 18446744073709551615 then now + by_ else 18446744073709551615
def ins (ds : List Dg) (d : Dg) : List Dg := ds.takeWhile (fun x => x.due ≤ d.due) ++ d :: ds.dropWhile (fun x => x.due ≤ d.due)
theorem ins_at (ds : List Dg) (d : Dg) (i : Nat) (hi : i ≤ ds.length) (h1 : ∀ k (h : k < ds.length), k < i → ds[k].due ≤ d.due) (h2 : ∀ k (h : k < ds.length), i ≤ k → d.due < ds[k].due) :
    ds.take i ++ d :: ds.drop i = ins ds d := by
  unfold ins
  induction ds generalizing i with
  | nil => simp
  | cons x xs ih =>
    cases i with
    | zero =>
      have := h2 0 (by simp) (Nat.le_refl _)
      have hx : ¬ (x.due ≤ d.due) := Nat.not_le.2 this
      simp [List.takeWhile_cons, List.dropWhile_cons, hx]
    | succ i =>
      have hx : x.due ≤ d.due := h1 0 (by simp) (by omega)
      have := ih i (by simpa using hi) (fun k h hk => h1 (k + 1) (by simpa using h) (by omega)) (fun k h hk => h2 (k + 1) (by simpa using h) (by omega))
      simp [List.takeWhile_cons, List.dropWhile_cons, hx, this]
theorem ins_mem {ds : List Dg} {d x : Dg} (h : x ∈ ins ds d) : x = d ∨ x ∈ ds := by
  have hh := List.takeWhile_append_dropWhile (p := fun x : Dg => decide (x.due ≤ d.due)) (l := ds)
  unfold ins at h
  rw [← hh]
  simp only [List.mem_append, List.mem_cons] at h ⊢
  grind
theorem ins_length (ds : List Dg) (d : Dg) : (ins ds d).length = ds.length + 1 := by
  have hh := congrArg List.length (List.takeWhile_append_dropWhile (p := fun x : Dg => decide (x.due ≤ d.due)) (l := ds))
  unfold ins
  simp only [List.length_append, List.length_cons] at hh ⊢
  omega
def Sorted (ds : List Dg) : Prop := ∀ i j (hi : i < ds.length) (hj : j < ds.length), i ≤ j → ds[i].due ≤ ds[j].due

theorem NetAt.ne' {base : Nat} {w : World} {b : Nat} {s : NS} {F v0 v1 : Value} (h : NetAt base w b s F v0 v1) : ∀ g, v1.ownBlock = some g → v0.ownBlock ≠ some g := fun g h1 h0 => h.ne g h0 h1

theorem NetAt.row0 {base : Nat} {w w3 : World} {b : Nat} {s : NS} {F v0 v1 v' : Value} (h : NetAt base w b s F v0 v1) (hs : base ≤ w.heap.size) (ds' : List Dg) (hown : w3.ownsRow base 141 2 v' ds'.length (dcells ds')) (hg : w.grownBy w3 v0.ownBlock)
    (hv : ∀ g, v'.ownBlock = some g → v0.ownBlock = some g ∨ w.heap.size ≤ g) (hd : ∀ d ∈ ds', DatAt w d) :
    NetAt base (w3.setCell ⟨b, 3, none⟩ v') b { s with u0 := ds' } F v' v1 ∧ Fr base w (w3.setCell ⟨b, 3, none⟩ v') ∧ w3.cell? ⟨b, 3, none⟩ = some v0 ∧ w3.frozen? ⟨b, 3, none⟩ = false := by
  have hbne : some b ≠ v0.ownBlock := by
    intro e
    obtain ⟨_, cur, hc⟩ := own_block h.r0.1 e.symm
    have := h.blk; unfold Blk at this; rw [this] at hc; injection hc with hc; injection hc with _ hc _; exact absurd hc (by decide)
  have hf : Fr base w w3 := Fr.grown hg (fun g e => by obtain ⟨h1, cur, hc⟩ := own_block h.r0.1 e; exact ⟨h1, cur, _, hc⟩) hs
  have hb3 : Blk w3 b 134 (netCells s F v0 v1) := h.blk.grown hg hbne
  have hf2 := Fr.set h.hb hb3 (.inl rfl) 3 v'
  have hne : ∀ {e : TypeId} {g : Nat} {cur : Array Value} {z : Nat × Nat}, w3.heap[g]? = some (Obj.cells cur e z) → e ≠ 134 → (w3.setCell ⟨b, 3, none⟩ v').heap[g]? = w3.heap[g]? := by
    intro e g cur z hc he
    refine Below.heap_setCell w3 ⟨b, 3, none⟩ v' g (fun e' => ?_)
    have e' : g = b := e'
    subst e'; unfold Blk at hb3; rw [hb3] at hc; injection hc with hc; injection hc with _ hc _; exact he hc.symm
  have hA : Under base (w3.setCell ⟨b, 3, none⟩ v') v' ds' := ⟨own_keep hown (fun g hgv => by
    obtain ⟨_, cur, hc⟩ := own_block hown hgv
    exact hne hc (by decide)), fun d hdd => ((hd d hdd).fr hf).fr hf2⟩
  have hB1 : Under base w3 v1 s.u1 := h.r1.keep hf (fun g hgv => hg.block g (by obtain ⟨_, cur, hc⟩ := own_block h.r1.1 hgv; exact (Array.getElem?_eq_some_iff.1 hc).1) (fun e => h.ne g e.symm hgv))
  have hB : Under base (w3.setCell ⟨b, 3, none⟩ v') v1 s.u1 := hB1.keep hf2 (fun g hgv => by
    obtain ⟨_, cur, hc⟩ := own_block hB1.1 hgv
    exact hne hc (by decide))
  have hC : ∀ g, v'.ownBlock = some g → v1.ownBlock ≠ some g := by
    intro g hgv hg1
    obtain ⟨_, cur, hc⟩ := own_block h.r1.1 hg1
    have hlt := (Array.getElem?_eq_some_iff.1 hc).1
    rcases hv g hgv with e | e
    · exact h.ne g e hg1
    · omega
  exact ⟨⟨h.hb, hb3.set_ 3 v', own_fr (own_fr h.ft hf (by decide) (by decide)) hf2 (by decide) (by decide), hA, hB, hC⟩, hf.trans hf2, by rw [hb3.cell]; rfl, hb3.frozen 3⟩

theorem put0_any (base b : Nat) (s : NS) (F v0 v1 : Value) (w : World) (h : NetAt base w b s F v0 v1) (hso : Sorted s.u0) (hn : s.u0.length ≤ 999999) (hnow : s.now ≤ 18446744073709551615) (A : Option Addr) (c : Nat) (bs : List UInt8) (hr : R5 w A bs) (hc : bs.length ≤ c) (L : Nat) (hL : L ≤ 18446744073709551615) :
    Calls Try.prog 112 #[.pointer (some ⟨b, 0, none⟩), .int .i64 0, .slice A bs.length c, .int .u64 L] w fun e w' => (∃ v, e = .returned v) ∧ ∃ v0', NetAt base w' b { s with u0 := ins s.u0 ⟨later s.now L, .slice A bs.length c, bs⟩ } F v0' v1 ∧ Fr base w w' := by
  have hbs : base ≤ w.heap.size := by have := h.hb; have := h.blk.lt; omega
  obtain ⟨-, -, c2, c3, c4⟩ := h.c0
  obtain ⟨A0, n0, hve, hnc, hcm⟩ := own_slice h.r0.1
  have h1 : ∀ d ∈ s.u0, d.at_.oneCell' = true := fun d hd => by obtain ⟨A', c', e, _⟩ := h.r0.2 d hd; rw [e]; rfl
  have hsl : ∀ d ∈ s.u0, ∃ A n c, d.at_ = .slice A n c := fun d hd => by obtain ⟨A', c', e, _⟩ := h.r0.2 d hd; exact ⟨_, _, _, e⟩
  obtain ⟨due, hdue⟩ : ∃ due, due = later s.now L := ⟨_, rfl⟩
  have hSE := Lib.hid (fun W hW => search_any A0 s.u0.length n0 due s.u0 W rfl (by omega) hW h1 hso)
  have hRd := Lib.hid (Rd.of_own (hve ▸ h.r0.1))
  have HIN := Lib.hid (fun (w1 : World) (i : Nat) (hi : i ≤ s.u0.length) (hb1 : Below w.heap.size w w1) => insert_any base s.u0.length i w1.heap.size v0 (dcells s.u0) (.int .u64 due) (.slice A bs.length c) (w1.alloc (Obj.cells #[.int .u64 due, .slice A bs.length c] 141)).drew (by omega) hi
    (own_below (own_below h.r0.1 hb1) (((Below.refl _ w1).alloc (Nat.le_refl _) _).drew)) (by have := hb1.size; simp; omega) (dcells_one _ hsl) rfl rfl (Blk.new w1 _ _).drew1 (fun e => by
      obtain ⟨_, cur, hcc⟩ := own_block h.r0.1 e
      have h5 := (Array.getElem?_eq_some_iff.1 hcc).1
      have h6 := hb1.size
      omega))
  have H := Lib.hid h
  have HR := Lib.hid hr
  have HD := Lib.hid hdue
  have HS1 := Lib.hid hsl
  have hent := callFunc_in (P := Try.prog) (f := 122) (fn := Try.f122) rfl (by kernel_rfl) (by kernel_rfl)
  have HENT := Lib.hid hent
  have hkeep : Hid (∀ (w1 w3 : World) (v' : Value) (i : Nat), i ≤ s.u0.length → (∀ k (hk : k < s.u0.length), k < i → s.u0[k].due ≤ due) → (∀ k (hk : k < s.u0.length), i ≤ k → due < s.u0[k].due) → Below w.heap.size w w1 →
      w3.ownsRow base 141 2 v' (s.u0.length + 1) ((dcells s.u0).take (2 * i) ++ [.int .u64 due, .slice A bs.length c] ++ (dcells s.u0).drop (2 * i)) →
      (w1.alloc (Obj.cells #[.int .u64 due, .slice A bs.length c] 141)).drew.grownBy w3 v0.ownBlock → (v'.ownBlock = v0.ownBlock ∨ v'.ownBlock = some (w1.alloc (Obj.cells #[.int .u64 due, .slice A bs.length c] 141)).drew.heap.size) →
      w3.cell? ⟨b, 3, none⟩ = some v0 ∧ w3.frozen? ⟨b, 3, none⟩ = false ∧ Hid (NetAt base (w3.setCell ⟨b, 3, none⟩ v') b { s with u0 := ins s.u0 ⟨due, .slice A bs.length c, bs⟩ } F v' v1 ∧ Fr base w (w3.setCell ⟨b, 3, none⟩ v'))) := by
    intro w1 w3 v' i hi p1 p2 hb1 hown hg hv
    obtain ⟨w2, hw2⟩ : ∃ w2, w2 = (w1.alloc (Obj.cells #[.int .u64 due, .slice A bs.length c] 141)).drew := ⟨_, rfl⟩
    rw [← hw2] at hg hv
    have hb2 : Below w.heap.size w w2 := by rw [hw2]; exact (hb1.alloc hb1.size _).drew
    have hs2 := hb2.size
    have h2 := h.below hbs hb2
    have hins := ins_at s.u0 ⟨due, .slice A bs.length c, bs⟩ i hi p1 p2
    have hdl : (dcells s.u0).take (2 * i) ++ [.int .u64 due, .slice A bs.length c] ++ (dcells s.u0).drop (2 * i) = dcells (ins s.u0 ⟨due, .slice A bs.length c, bs⟩) := by
      rw [← hins, dcells_append, dcells_take, dcells_drop, List.append_assoc]; rfl
    rw [hdl, ← ins_length s.u0 ⟨due, .slice A bs.length c, bs⟩] at hown
    obtain ⟨r1, r2, r3, r4⟩ := h2.row0 (by omega) _ hown hg (fun g hgv => by
      rcases hv with e | e
      · exact .inl (e ▸ hgv)
      · rw [e] at hgv; injection hgv with hgv; exact .inr (by omega)) (fun d hd => by
      rcases ins_mem hd with rfl | hd
      · exact ⟨A, c, rfl, hc, hr.fr (Fr.of_below hbs hb2)⟩
      · exact (h.r0.2 d hd).fr (Fr.of_below hbs hb2))
    exact ⟨r3, r4, r1, (Fr.of_below hbs hb2).trans r2⟩
  subst hve
  clear h hr hdue hsl hso h1 hent
  have goon : ∀ (wx dv : Int), IntKind.u64.wrap ((s.now : Int) + L) = wx → (due : Int) = dv → ((wx < L ∧ dv = 18446744073709551615) ∨ (¬ wx < L ∧ dv = wx)) → Calls Try.prog 112 #[.pointer (some ⟨b, 0, none⟩), .int .i64 0, .slice A bs.length c, .int .u64 L] w fun e w' => (∃ v, e = .returned v) ∧ ∃ v0', NetAt base w' b { s with u0 := ins s.u0 ⟨due, .slice A bs.length c, bs⟩ } F v0' v1 ∧ Fr base w w' := by
    intro wx dv hwx hdv hcase
    simp only [hdv] at hSE HIN hkeep
    clear hdv
    rcases hcase with ⟨hlt, rfl⟩ | ⟨hlt, rfl⟩
    · have hlt' : decide (wx < (L : Int)) = true := by simpa using hlt
      go_enter Try.func112, Try.ntmps112
      go_wp2_with (first | (go_at_call 119; refine (hSE.out _ hRd.out).mono ?_; rintro e w1 ⟨⟨i, fb, hi, rfl, p1, p2⟩, hb1⟩; have d3 := cell_below c3 hb1))
      go_region_law (refine step_call rfl 122 #[.tmp 35, .tmp 36, .tmp 40] #[124, 3, 124] rfl #[.slice A0 s.u0.length n0, .int .i64 i, .slice (some ⟨w1.heap.size, 0, none⟩) 1 1] (by simp [Act.eval, Act.put]) (HENT.out _) ((HIN.out w1 i hi hb1).mono ?_); rintro e w3 ⟨v', rfl, hown, hg, hv⟩; obtain ⟨A3, c3', rfl, _, _⟩ := own_slice hown; refine ⟨_, rfl, ?_⟩; obtain ⟨t1, t2, t3⟩ := hkeep.out w1 w3 (.slice A3 (s.u0.length + 1) c3') i hi p1 p2 hb1 hown hg hv; clear hown hg hv)
      all_goals (go_end0; exact ⟨⟨_, rfl⟩, _, t3.out⟩)
    · have hlt' : decide (dv < (L : Int)) = false := by simpa using hlt
      go_enter Try.func112, Try.ntmps112
      go_wp2_with (first | (go_at_call 119; refine (hSE.out _ hRd.out).mono ?_; rintro e w1 ⟨⟨i, fb, hi, rfl, p1, p2⟩, hb1⟩; have d3 := cell_below c3 hb1))
      go_region_law (refine step_call rfl 122 #[.tmp 35, .tmp 36, .tmp 40] #[124, 3, 124] rfl #[.slice A0 s.u0.length n0, .int .i64 i, .slice (some ⟨w1.heap.size, 0, none⟩) 1 1] (by simp [Act.eval, Act.put]) (HENT.out _) ((HIN.out w1 i hi hb1).mono ?_); rintro e w3 ⟨v', rfl, hown, hg, hv⟩; obtain ⟨A3, c3', rfl, _, _⟩ := own_slice hown; refine ⟨_, rfl, ?_⟩; obtain ⟨t1, t2, t3⟩ := hkeep.out w1 w3 (.slice A3 (s.u0.length + 1) c3') i hi p1 p2 hb1 hown hg hv; clear hown hg hv)
      all_goals (go_end0; exact ⟨⟨_, rfl⟩, _, t3.out⟩)
  by_cases hov : s.now + L ≤ 18446744073709551615
  · have hd' : due = s.now + L := by rw [HD.out]; exact if_pos hov
    rw [← HD.out]
    exact goon ((s.now : Int) + L) ((s.now : Int) + L) (by rw [IntKind.wrap_u64]; omega) (by omega) (.inr ⟨by omega, rfl⟩)
  · have hd' : due = 18446744073709551615 := by rw [HD.out]; exact if_neg hov
    rw [← HD.out]
    exact goon ((s.now : Int) + L - 18446744073709551616) 18446744073709551615 (by rw [IntKind.wrap_u64]; omega) (by omega) (.inl ⟨by omega, rfl⟩)

theorem NetAt.row1 {base : Nat} {w w3 : World} {b : Nat} {s : NS} {F v0 v1 v' : Value} (h : NetAt base w b s F v0 v1) (hs : base ≤ w.heap.size) (ds' : List Dg) (hown : w3.ownsRow base 141 2 v' ds'.length (dcells ds')) (hg : w.grownBy w3 v1.ownBlock)
    (hv : ∀ g, v'.ownBlock = some g → v1.ownBlock = some g ∨ w.heap.size ≤ g) (hd : ∀ d ∈ ds', DatAt w d) :
    NetAt base (w3.setCell ⟨b, 4, none⟩ v') b { s with u1 := ds' } F v0 v' ∧ Fr base w (w3.setCell ⟨b, 4, none⟩ v') ∧ w3.cell? ⟨b, 4, none⟩ = some v1 ∧ w3.frozen? ⟨b, 4, none⟩ = false := by
  have hbne : some b ≠ v1.ownBlock := by
    intro e
    obtain ⟨_, cur, hc⟩ := own_block h.r1.1 e.symm
    have := h.blk; unfold Blk at this; rw [this] at hc; injection hc with hc; injection hc with _ hc _; exact absurd hc (by decide)
  have hf : Fr base w w3 := Fr.grown hg (fun g e => by obtain ⟨h1, cur, hc⟩ := own_block h.r1.1 e; exact ⟨h1, cur, _, hc⟩) hs
  have hb3 : Blk w3 b 134 (netCells s F v0 v1) := h.blk.grown hg hbne
  have hf2 := Fr.set h.hb hb3 (.inl rfl) 4 v'
  have hne : ∀ {e : TypeId} {g : Nat} {cur : Array Value} {z : Nat × Nat}, w3.heap[g]? = some (Obj.cells cur e z) → e ≠ 134 → (w3.setCell ⟨b, 4, none⟩ v').heap[g]? = w3.heap[g]? := by
    intro e g cur z hc he
    refine Below.heap_setCell w3 ⟨b, 4, none⟩ v' g (fun e' => ?_)
    have e' : g = b := e'
    subst e'; unfold Blk at hb3; rw [hb3] at hc; injection hc with hc; injection hc with _ hc _; exact he hc.symm
  have hA : Under base (w3.setCell ⟨b, 4, none⟩ v') v' ds' := ⟨own_keep hown (fun g hgv => by
    obtain ⟨_, cur, hc⟩ := own_block hown hgv
    exact hne hc (by decide)), fun d hdd => ((hd d hdd).fr hf).fr hf2⟩
  have hB1 : Under base w3 v0 s.u0 := h.r0.keep hf (fun g hgv => hg.block g (by obtain ⟨_, cur, hc⟩ := own_block h.r0.1 hgv; exact (Array.getElem?_eq_some_iff.1 hc).1) (fun e => h.ne' g e.symm hgv))
  have hB : Under base (w3.setCell ⟨b, 4, none⟩ v') v0 s.u0 := hB1.keep hf2 (fun g hgv => by
    obtain ⟨_, cur, hc⟩ := own_block hB1.1 hgv
    exact hne hc (by decide))
  have hC : ∀ g, v'.ownBlock = some g → v0.ownBlock ≠ some g := by
    intro g hgv hg1
    obtain ⟨_, cur, hc⟩ := own_block h.r0.1 hg1
    have hlt := (Array.getElem?_eq_some_iff.1 hc).1
    rcases hv g hgv with e | e
    · exact h.ne' g e hg1
    · omega
  exact ⟨⟨h.hb, hb3.set_ 4 v', own_fr (own_fr h.ft hf (by decide) (by decide)) hf2 (by decide) (by decide), hB, hA, fun g h0 h1 => hC g h1 h0⟩, hf.trans hf2, by rw [hb3.cell]; rfl, hb3.frozen 4⟩

theorem put1_any (base b : Nat) (s : NS) (F v0 v1 : Value) (w : World) (h : NetAt base w b s F v0 v1) (hso : Sorted s.u1) (hn : s.u1.length ≤ 999999) (hnow : s.now ≤ 18446744073709551615) (A : Option Addr) (c : Nat) (bs : List UInt8) (hr : R5 w A bs) (hc : bs.length ≤ c) (L : Nat) (hL : L ≤ 18446744073709551615) :
    Calls Try.prog 112 #[.pointer (some ⟨b, 0, none⟩),   .int .i64 1, .slice A bs.length c, .int .u64 L] w fun e w' => (∃ v, e = .returned v) ∧ ∃ v1', NetAt base w' b { s with u1 := ins s.u1 ⟨later s.now L, .slice A bs.length c, bs⟩ } F v0 v1' ∧ Fr base w w' := by
  have hbs : base ≤ w.heap.size := by have := h.hb; have := h.blk.lt; omega
  obtain ⟨-, -, c2, c3, c4⟩ := h.c0
  obtain ⟨A0, n0, hve, hnc, hcm⟩ := own_slice h.r1.1
  have h1 : ∀ d ∈ s.u1, d.at_.oneCell' = true := fun d hd => by obtain ⟨A', c', e, _⟩ := h.r1.2 d hd; rw [e]; rfl
  have hsl : ∀ d ∈ s.u1, ∃ A n c, d.at_ = .slice A n c := fun d hd => by obtain ⟨A', c', e, _⟩ := h.r1.2 d hd; exact ⟨_, _, _, e⟩
  obtain ⟨due, hdue⟩ : ∃ due, due = later s.now L := ⟨_, rfl⟩
  have hSE := Lib.hid (fun W hW => search_any A0 s.u1.length n0 due s.u1 W rfl (by omega) hW h1 hso)
  have hRd := Lib.hid (Rd.of_own (hve ▸ h.r1.1))
  have HIN := Lib.hid (fun (w1 : World) (i : Nat) (hi : i ≤ s.u1.length) (hb1 : Below w.heap.size w w1) => insert_any base s.u1.length i w1.heap.size v1 (dcells s.u1) (.int .u64 due) (.slice A bs.length c) (w1.alloc (Obj.cells #[.int .u64 due, .slice A bs.length c] 141)).drew (by omega) hi
    (own_below (own_below h.r1.1 hb1) (((Below.refl _ w1).alloc (Nat.le_refl _) _).drew)) (by have := hb1.size; simp; omega) (dcells_one _ hsl) rfl rfl (Blk.new w1 _ _).drew1 (fun e => by
      obtain ⟨_, cur, hcc⟩ := own_block h.r1.1 e
      have h5 := (Array.getElem?_eq_some_iff.1 hcc).1
      have h6 := hb1.size
      omega))
  have H := Lib.hid h
  have HR := Lib.hid hr
  have HD := Lib.hid hdue
  have HS1 := Lib.hid hsl
  have hent := callFunc_in (P := Try.prog) (f := 122) (fn := Try.f122) rfl (by kernel_rfl) (by kernel_rfl)
  have HENT := Lib.hid hent
  have hkeep : Hid (∀ (w1 w3 : World) (v' : Value) (i : Nat), i ≤ s.u1.length → (∀ k (hk : k < s.u1.length), k < i → s.u1[k].due ≤ due) → (∀ k (hk : k < s.u1.length), i ≤ k → due < s.u1[k].due) → Below w.heap.size w w1 →
      w3.ownsRow base 141 2 v' (s.u1.length + 1) ((dcells s.u1).take (2 * i) ++ [.int .u64 due, .slice A bs.length c] ++ (dcells s.u1).drop (2 * i)) →
      (w1.alloc (Obj.cells #[.int .u64 due, .slice A bs.length c] 141)).drew.grownBy w3 v1.ownBlock → (v'.ownBlock = v1.ownBlock ∨ v'.ownBlock = some (w1.alloc (Obj.cells #[.int .u64 due, .slice A bs.length c] 141)).drew.heap.size) →
      w3.cell? ⟨b, 4, none⟩ = some v1 ∧ w3.frozen? ⟨b, 4, none⟩ = false ∧ Hid (NetAt base (w3.setCell ⟨b, 4, none⟩ v') b { s with u1 := ins s.u1 ⟨due, .slice A bs.length c, bs⟩ } F v0 v' ∧ Fr base w (w3.setCell ⟨b, 4, none⟩ v'))) := by
    intro w1 w3 v' i hi p1 p2 hb1 hown hg hv
    obtain ⟨w2, hw2⟩ : ∃ w2, w2 = (w1.alloc (Obj.cells #[.int .u64 due, .slice A bs.length c] 141)).drew := ⟨_, rfl⟩
    rw [← hw2] at hg hv
    have hb2 : Below w.heap.size w w2 := by rw [hw2]; exact (hb1.alloc hb1.size _).drew
    have hs2 := hb2.size
    have h2 := h.below hbs hb2
    have hins := ins_at s.u1 ⟨due, .slice A bs.length c, bs⟩ i hi p1 p2
    have hdl : (dcells s.u1).take (2 * i) ++ [.int .u64 due, .slice A bs.length c] ++ (dcells s.u1).drop (2 * i) = dcells (ins s.u1 ⟨due, .slice A bs.length c, bs⟩) := by
      rw [← hins, dcells_append, dcells_take, dcells_drop, List.append_assoc]; rfl
    rw [hdl, ← ins_length s.u1 ⟨due, .slice A bs.length c, bs⟩] at hown
    obtain ⟨r1, r2, r3, r4⟩ := h2.row1 (by omega) _ hown hg (fun g hgv => by
      rcases hv with e | e
      · exact .inl (e ▸ hgv)
      · rw [e] at hgv; injection hgv with hgv; exact .inr (by omega)) (fun d hd => by
      rcases ins_mem hd with rfl | hd
      · exact ⟨A, c, rfl, hc, hr.fr (Fr.of_below hbs hb2)⟩
      · exact (h.r1.2 d hd).fr (Fr.of_below hbs hb2))
    exact ⟨r3, r4, r1, (Fr.of_below hbs hb2).trans r2⟩
  subst hve
  clear h hr hdue hsl hso h1 hent
  have goon : ∀ (wx dv : Int), IntKind.u64.wrap ((s.now : Int) + L) = wx → (due : Int) = dv → ((wx < L ∧ dv = 18446744073709551615) ∨ (¬ wx < L ∧ dv = wx)) → Calls Try.prog 112 #[.pointer (some ⟨b, 0, none⟩),   .int .i64 1, .slice A bs.length c, .int .u64 L] w fun e w' => (∃ v, e = .returned v) ∧ ∃ v1', NetAt base w' b { s with u1 := ins s.u1 ⟨due, .slice A bs.length c, bs⟩ } F v0 v1' ∧ Fr base w w' := by
    intro wx dv hwx hdv hcase
    simp only [hdv] at hSE HIN hkeep
    clear hdv
    rcases hcase with ⟨hlt, rfl⟩ | ⟨hlt, rfl⟩
    · have hlt' : decide (wx < (L : Int)) = true := by simpa using hlt
      go_enter Try.func112, Try.ntmps112
      go_wp2_with (first | (go_at_call 119; refine (hSE.out _ hRd.out).mono ?_; rintro e w1 ⟨⟨i, fb, hi, rfl, p1, p2⟩, hb1⟩; have d3 := cell_below c4 hb1))
      go_region_law (refine step_call rfl 122 #[.tmp 35, .tmp 36, .tmp 40] #[124, 3, 124] rfl #[.slice A0 s.u1.length n0, .int .i64 i, .slice (some ⟨w1.heap.size, 0, none⟩) 1 1] (by simp [Act.eval, Act.put]) (HENT.out _) ((HIN.out w1 i hi hb1).mono ?_); rintro e w3 ⟨v', rfl, hown, hg, hv⟩; obtain ⟨A3, c3', rfl, _, _⟩ := own_slice hown; refine ⟨_, rfl, ?_⟩; obtain ⟨t1, t2, t3⟩ := hkeep.out w1 w3 (.slice A3 (s.u1.length + 1) c3') i hi p1 p2 hb1 hown hg hv; clear hown hg hv)
      all_goals (go_end0; exact ⟨⟨_, rfl⟩, _, t3.out⟩)
    · have hlt' : decide (dv < (L : Int)) = false := by simpa using hlt
      go_enter Try.func112, Try.ntmps112
      go_wp2_with (first | (go_at_call 119; refine (hSE.out _ hRd.out).mono ?_; rintro e w1 ⟨⟨i, fb, hi, rfl, p1, p2⟩, hb1⟩; have d3 := cell_below c4 hb1))
      go_region_law (refine step_call rfl 122 #[.tmp 35, .tmp 36, .tmp 40] #[124, 3, 124] rfl #[.slice A0 s.u1.length n0, .int .i64 i, .slice (some ⟨w1.heap.size, 0, none⟩) 1 1] (by simp [Act.eval, Act.put]) (HENT.out _) ((HIN.out w1 i hi hb1).mono ?_); rintro e w3 ⟨v', rfl, hown, hg, hv⟩; obtain ⟨A3, c3', rfl, _, _⟩ := own_slice hown; refine ⟨_, rfl, ?_⟩; obtain ⟨t1, t2, t3⟩ := hkeep.out w1 w3 (.slice A3 (s.u1.length + 1) c3') i hi p1 p2 hb1 hown hg hv; clear hown hg hv)
      all_goals (go_end0; exact ⟨⟨_, rfl⟩, _, t3.out⟩)
  by_cases hov : s.now + L ≤ 18446744073709551615
  · have hd' : due = s.now + L := by rw [HD.out]; exact if_pos hov
    rw [← HD.out]
    exact goon ((s.now : Int) + L) ((s.now : Int) + L) (by rw [IntKind.wrap_u64]; omega) (by omega) (.inr ⟨by omega, rfl⟩)
  · have hd' : due = 18446744073709551615 := by rw [HD.out]; exact if_neg hov
    rw [← HD.out]
    exact goon ((s.now : Int) + L - 18446744073709551616) 18446744073709551615 (by rw [IntKind.wrap_u64]; omega) (by omega) (.inl ⟨by omega, rfl⟩)
end Go.Proofs.Ytnbnghihmophpaa
