/- The net: NetHolds's walk. -/
import Derived.Test.YtnbnghihmophpaaNW
import Derived.Test.YtnbnghihmophpaaNK
import Derived.Test.YtnbnghihmophpaaL2
namespace Go.Proofs.Ytnbnghihmophpaa
open Go.RowKit
set_option maxRecDepth 20000
set_option maxHeartbeats 4000000
set_option linter.unusedVariables false
set_option linter.unusedSimpArgs false

def cutF (f : Fate) : Fate := { f with by_ := f.by_ % 21 }
theorem fcell {w : World} {A : Option Addr} {fs : List Fate} (h : Rd w A (fcells fs)) (k : Nat) (hk : k < fs.length) : ∃ g off, A = some ⟨g, off, none⟩ ∧ w.cell? ⟨g, off + k * 4, none⟩ = some (.int .i64 fs[k].kind) ∧ w.cell? ⟨g, off + k * 4 + 1, none⟩ = some (.int .u16 (fs[k].by_ : Nat)) ∧
    w.cell? ⟨g, off + k * 4 + 2, none⟩ = some (.int .i64 fs[k].at_) ∧ w.cell? ⟨g, off + k * 4 + 3, none⟩ = some (.int .u8 (fs[k].xor : Nat)) := by
  have hl : (fcells fs).length = fs.length * 4 := fcells_length fs
  have key : ∀ i, i < 4 → ∃ g off, A = some ⟨g, off, none⟩ ∧ w.cell? ⟨g, off + (k * 4 + i), none⟩ = (fs[k].cells)[i]? := by
    intro i hi
    obtain ⟨g, off, he, hc⟩ := h (k * 4 + i) (by omega)
    refine ⟨g, off, he, ?_⟩
    rw [hc, ← fcells_get k hk i hi, Nat.mul_comm 4 k, List.getElem?_eq_getElem]
  obtain ⟨g, off, rfl, h0⟩ := key 0 (by omega)
  obtain ⟨g1, off1, e1, h1⟩ := key 1 (by omega)
  obtain ⟨g2, off2, e2, h2⟩ := key 2 (by omega)
  obtain ⟨g3, off3, e3, h3⟩ := key 3 (by omega)
  injection e1 with e1; injection e1 with a1 b1; subst a1; subst b1
  injection e2 with e2; injection e2 with a2 b2; subst a2; subst b2
  injection e3 with e3; injection e3 with a3 b3; subst a3; subst b3
  exact ⟨g, off, rfl, h0, h1, h2, h3⟩
theorem acell {w : World} {A : Option Addr} {ls : List AV} (h : Rd w A (acells ls)) (k : Nat) (hk : k < ls.length) : ∃ g off, A = some ⟨g, off, none⟩ ∧ w.cell? ⟨g, off + k * 3, none⟩ = some (.int .i64 ls[k].d) ∧ w.cell? ⟨g, off + k * 3 + 1, none⟩ = some (.int .i64 ls[k].t) ∧
    w.cell? ⟨g, off + k * 3 + 2, none⟩ = some (.slice ls[k].A ls[k].b.length ls[k].c) := by
  have hl : (acells ls).length = ls.length * 3 := acells_length ls
  have key : ∀ i, i < 3 → ∃ g off, A = some ⟨g, off, none⟩ ∧ w.cell? ⟨g, off + (k * 3 + i), none⟩ = (ls[k].cells)[i]? := by
    intro i hi
    obtain ⟨g, off, he, hc⟩ := h (k * 3 + i) (by omega)
    refine ⟨g, off, he, ?_⟩
    have h2 := flat_get (g := AV.cells) (c := 3) (fun a => rfl) k hk i hi
    rw [hc, ← h2, Nat.mul_comm 3 k]
    exact (List.getElem?_eq_getElem _).symm
  obtain ⟨g, off, rfl, h0⟩ := key 0 (by omega)
  obtain ⟨g1, off1, e1, h1⟩ := key 1 (by omega)
  obtain ⟨g2, off2, e2, h2⟩ := key 2 (by omega)
  injection e1 with e1; injection e1 with a1 b1; subst a1; subst b1
  injection e2 with e2; injection e2 with a2 b2; subst a2; subst b2
  exact ⟨g, off, rfl, h0, h1, h2⟩
/-- What the main loop keeps, behind i rounds. -/
structure HL (B0 base b : Nat) (F bv : Value) (Bd : List Fate) (w0 : World) (L i : Nat) (a : AS) (S K T : List Nat) (kv sv tv : Value) (W : World) : Prop where
  m : HM B0 base b F bv Bd w0 a S K T kv sv tv W
  h : HI Bd a S K T (i - L)
  nw : a.now ≤ i
  s1 : S.length ≤ i
  s2 : S.length ≤ L
  c : L < i → ∀ k, k < 2 → ∀ p ∈ a.l k, a.now < p.1
theorem rd_one (w : World) (v : Value) (e : TypeId) : Rd (w.alloc (Obj.cells #[v] e)) (some ⟨w.heap.size, 0, none⟩) [v] := by
  intro j hj
  refine ⟨_, 0, rfl, ?_⟩
  rw [Nat.zero_add, (Blk.new w e #[v]).cell]
  match j, hj with
  | 0, _ => rfl
theorem send_now (a : AS) (k : Nat) (xs : List UInt8) : (a.send k xs).now = a.now := by
  unfold AS.send
  exact (does_keep _ _ _ _).2.2.trans (step_rest a).2.1
theorem rd_idB (w W : World) (n base : Nat) (hn : n < 256) (h : Fr base (w.alloc (Obj.cells #[.int .u8 (n : Nat), .int .u8 7] 5)) W) : Rd W (some ⟨w.heap.size, 0, none⟩) (bv (idB n)) := by
  have hb := (Blk.new w 5 #[.int .u8 (n : Nat), .int .u8 7]).fr h (by decide) (by decide)
  intro j hj
  refine ⟨_, 0, rfl, ?_⟩
  rw [Nat.zero_add, hb.cell]
  match j, hj with
  | 0, _ => simp [bv, idB, Nat.mod_eq_of_lt hn]
  | 1, _ => simp [bv, idB]
theorem got_cnt (a : AS) (k m : Nat) : (a.got k).countP (· == idB m) = cnt m (a.come k) := by
  unfold AS.got cnt
  induction a.come k with
  | nil => rfl
  | cons p l ih =>
    rw [List.filterMap_cons, List.countP_cons]
    cases ho : openB p.2 with
    | none => simpa using ih
    | some xs =>
      rw [List.countP_cons, ih]
      by_cases hx : xs = idB m <;> simp [hx]
theorem got_mem {a : AS} {k : Nat} {xs : List UInt8} (h : xs ∈ a.got k) : ∃ p ∈ a.l k, p.1 ≤ a.now ∧ openB p.2 = some xs := by
  obtain ⟨p, hp, ho⟩ := List.mem_filterMap.1 h
  refine ⟨p, List.takeWhile_subset _ hp, ?_, ho⟩
  have := List.all_takeWhile (p := fun y : Nat × List UInt8 => decide (y.1 ≤ a.now)) (l := a.l k)
  simpa using List.all_eq_true.1 this p hp
theorem take_now (a : AS) (k : Nat) : (a.take k).now = a.now := by unfold AS.take AS.setl; split <;> rfl
theorem take_other (a : AS) (k j : Nat) (hk : k < 2) (hj : j < 2) (hne : j ≠ k) : (a.take k).l j = a.l j := by
  unfold AS.take AS.setl AS.l
  rcases (by omega : k = 0 ∨ k = 1) with rfl | rfl <;> rcases (by omega : j = 0 ∨ j = 1) with rfl | rfl <;> simp_all
theorem take_self (a : AS) (k : Nat) (hk : k < 2) : (a.take k).l k = (a.l k).dropWhile (fun y => y.1 ≤ a.now) := by
  unfold AS.take AS.setl AS.l
  rcases (by omega : k = 0 ∨ k = 1) with rfl | rfl <;> simp
theorem NetR.sorted {base b : Nat} {a : AS} {F : Value} {w : World} (h : NetR base b a F w) (k : Nat) : (a.l k).Pairwise (fun x y => x.1 ≤ y.1) := by
  obtain ⟨s, _, rfl, h0, h1⟩ := h
  rw [ofNS_l]
  have hs := sorted_u k h0 h1
  have hq : (s.u k).Pairwise (fun a b : Dg => a.due ≤ b.due) := List.pairwise_iff_getElem.2 fun i j hi hj hij => hs i j hi hj (Nat.le_of_lt hij)
  unfold er
  exact List.pairwise_map.2 hq
theorem drop_past {l : Fl} (now : Nat) (h : l.Pairwise (fun x y => x.1 ≤ y.1)) : ∀ p ∈ l.dropWhile (fun y => decide (y.1 ≤ now)), now < p.1 := by
  induction l with
  | nil => intro p hp; simp at hp
  | cons x l ih =>
    intro p hp
    rw [List.pairwise_cons] at h
    rw [List.dropWhile_cons] at hp
    split at hp
    · exact ih h.2 p hp
    · rename_i hx
      have hx : ¬ x.1 ≤ now := by simpa using hx
      rcases List.mem_cons.1 hp with rfl | hp
      · omega
      · have := h.1 p hp; omega
theorem take_past {base b : Nat} {a : AS} {F : Value} {w : World} (h : NetR base b a F w) (k : Nat) (hk : k < 2) : ∀ p ∈ (a.take k).l k, (a.take k).now < p.1 := by
  rw [take_self a k hk, take_now]
  exact drop_past _ (h.sorted k)
/-- What the innermost loop keeps. -/
structure HT (K K3 : List Nat) (xs : List (List UInt8)) : Prop where
  len : K3.length = K.length
  c : ∀ m (h1 : m < K3.length) (h2 : m < K.length), K3[m] = K[m] + xs.countP (· == idB m)
theorem HT.more {K K3 : List Nat} {xs : List (List UInt8)} (h : HT K K3 xs) (m : Nat) (hm : m < K3.length) (h256 : K.length ≤ 256) : HT K (K3.set m (K3[m] + 1)) (xs ++ [idB m]) := by
  refine ⟨by rw [List.length_set]; exact h.len, ?_⟩
  intro j h1 h2
  have hj3 : j < K3.length := by rw [h.len]; exact h2
  have hc := h.c j hj3 h2
  rw [List.countP_append]
  by_cases e : m = j
  · subst e
    rw [List.getElem_set_self, hc]
    simp; omega
  · rw [List.getElem_set_ne e, hc]
    have : (idB m == idB j) = false := by
      rw [beq_eq_false_iff_ne]; intro he
      exact e (idB_inj (by rw [h.len] at hm; omega) (by omega) he)
    simp [this]
theorem want_nil {B : List Fate} (h : B.length = 0) (m : Nat) : wantF B m = 1 := by
  have hb : B = [] := List.eq_nil_of_length_eq_zero h
  subst hb
  simp [wantF]
theorem netHolds_long (A Al : Option Addr) (nf nl cf cl : Nat) (w : World) (h : 60 < nl ∨ 60 < nf) :
    Calls Try.prog 14 #[.slice A nf cf, .slice Al nl cl] w fun e w' => e = .returned (.bool true) ∧ Below w.heap.size w w' := by
  have HWK := Lib.hid netWorks_any
  by_cases h1 : 60 < nl
  · have hd : decide ((60 : Int) < nl) = true := by simp; omega
    clear h
    go_enter Try.func14, Try.ntmps14
    go_wp2_with (go_at_call 48; refine (HWK.out _).mono ?_; rintro e w1 ⟨rfl, hb1⟩)
    go_ret
    exact ⟨rfl, hb1⟩
  · have hd : decide ((60 : Int) < nl) = false := by simp; omega
    have hd2 : decide ((60 : Int) < nf) = true := by simp; omega
    clear h
    go_enter Try.func14, Try.ntmps14
    go_wp2_with (go_at_call 48; refine (HWK.out _).mono ?_; rintro e w1 ⟨rfl, hb1⟩)
    go_ret
    exact ⟨rfl, hb1⟩
theorem netHolds_short (A Al : Option Addr) (fs : List Fate) (ls : List AV) (cf cl : Nat) (w : World) (hnf : fs.length ≤ 60) (hnl : ls.length ≤ 60) (hrf : Rd w A (fcells fs)) (hok : ∀ f ∈ fs, f.ok) (hrl : Rd w Al (acells ls)) (hal : ∀ a ∈ ls, a.ok w) :
    Calls Try.prog 14 #[.slice A fs.length cf, .slice Al ls.length cl] w fun e w' => e = .returned (.bool true) ∧ Below w.heap.size w w' := by
  have hd : decide ((60 : Int) < ls.length) = false := by simp; omega
  have hd2 : decide ((60 : Int) < fs.length) = false := by simp; omega
  have HRF := Lib.hid hrf
  have HOK := Lib.hid hok
  have HRL := Lib.hid hrl
  have HAL := Lib.hid hal
  have HZ79 := Lib.hid info79
  clear hrf hok hrl hal
  go_enter Try.func14, Try.ntmps14
  go_wp2
  go_loopw [5, 6] (fun bv iv wr => ∃ i c : Nat, ∃ Ab, i ≤ fs.length ∧ iv = .int .i64 i ∧ bv = .slice Ab i c ∧ Hid (wr.ownsRow w.heap.size 79 4 (.slice Ab i c) i (fcells ((fs.take i).map cutF))) ∧ Hid (Below w.heap.size w wr)) (fun _ iv _ => fs.length - (intOf iv).toNat)
  case atStart => exact ⟨0, 0, none, by omega, rfl, rfl, World.ownsRow_nil _ _ _ _, Below.refl _ _⟩
  case round =>
    obtain ⟨i, c, Ab, hi, rfl, rfl, HO, HB⟩ := hrel
    by_cases hlt : i < fs.length
    · obtain ⟨g, off, rfl, f0, f1, f2, f3⟩ := fcell (HRF.out.below HB.out) i hlt
      have i0 : (0 : Int) ≤ i := by omega
      have i1 : (i : Int) < fs.length := by omega
      have HX := Lib.hid (List.take_succ_eq_append_getElem hlt)
      obtain ⟨⟨fk, fb, fa, fx⟩, hfe⟩ : ∃ f, fs[i] = f := ⟨_, rfl⟩
      have hby : fb < 65536 := by have := (HOK.out fs[i] (List.getElem_mem _)).2.1; rw [hfe] at this; exact this
      rw [hfe] at f0 f1 f2 f3 HX
      simp only at f0 f1 f2 f3
      have HBY := Lib.hid hby
      have hbr : w.heap.size ≤ wr.heap.size := HB.out.size
      clear hfe hby
      go_wp2_with (at_builtin
                   obtain ⟨O, hO⟩ : ∃ O, O = Obj.cells #[.int .i64 fk, .int .u16 ((fb : Int) % 21), .int .i64 fa, .int .u8 fx] 79 := ⟨_, rfl⟩
                   have hB2 : Below wr.heap.size wr ((wr.alloc O).alloc O) := ((Below.refl _ wr).alloc (Nat.le_refl _) _).alloc (by simp) _
                   have hcs : (cutF ⟨fk, fb, fa, fx⟩).cells = [.int .i64 fk, .int .u16 ((fb : Int) % 21), .int .i64 fa, .int .u8 fx] := by simp [cutF, Fate.cells]
                   have hrd1 : Rd ((wr.alloc O).alloc O) (some ⟨wr.heap.size + 1, 0, none⟩) (cutF ⟨fk, fb, fa, fx⟩).cells := by
                     intro j hj
                     refine ⟨_, 0, rfl, ?_⟩
                     have hb := Blk.new (wr.alloc O) 79 #[.int .i64 fk, .int .u16 ((fb : Int) % 21), .int .i64 fa, .int .u8 fx]
                     rw [← hO] at hb
                     have hsz : (wr.alloc O).heap.size = wr.heap.size + 1 := by simp
                     rw [hsz] at hb
                     rw [Nat.zero_add, hb.cell]
                     simp only [hcs] at hj ⊢
                     rw [List.getElem?_toArray, List.getElem?_eq_getElem hj]
                   rw [← hO]
                   refine wpList_append_rd rfl (.tmp 44) (.tmp 46) 67 rfl w.heap.size 79 (.agg #[.int .i64 0, .int .u16 0, .int .i64 0, .int .u8 0]) 4 32 Try.underlying67 info79b rfl (by omega) (.slice Ab i c) i _ rfl (own_below HO.out hB2) (some ⟨wr.heap.size + 1, 0, none⟩) 1 1 (cutF ⟨fk, fb, fa, fx⟩).cells rfl rfl hrd1 (by simp [Fate.cells, Value.oneCell']) (by simp only [maxLen]; omega) (by omega) (by simp; omega) ?_
                   intro v4 w4 hown4 hg4 _
                   have hown2 := own_below HO.out hB2
                   have HB4 := Lib.hid (HB.out.trans ((hB2.mono hbr).trans (below_grown hown2 hg4 (by simp; omega))))
                   obtain ⟨A4, c4, rfl, hc41, hc42⟩ := own_slice hown4
                   have hfc : fcells ((fs.take i).map cutF) ++ (cutF ⟨fk, fb, fa, fx⟩).cells = fcells ((fs.take (i + 1)).map cutF) := by
                     rw [HX.out]; simp [fcells]
                   rw [hfc] at hown4
                   have HO4 := Lib.hid hown4
                   clear hO hB2 hcs hrd1 hown4 hg4 hown2 hfc)
      exact ⟨⟨i + 1, c4, A4, by omega, by go_num, rfl, HO4, HB4⟩, by simp [intOf]; omega⟩
    · obtain rfl : i = fs.length := by omega
      have hBd : (fs.take fs.length).map cutF = fs.map cutF := by rw [List.take_of_length_le (Nat.le_refl _)]
      obtain ⟨Bd, hBe⟩ : ∃ Bd, Bd = fs.map cutF := ⟨_, rfl⟩
      have hBl : Bd.length = fs.length := by rw [hBe]; simp
      have hBo : ∀ f ∈ Bd, f.ok ∧ f.by_ ≤ 20 := by
        intro f hf
        rw [hBe] at hf
        obtain ⟨g, hg, rfl⟩ := List.mem_map.1 hf
        have h1 := HOK.out g hg
        exact ⟨⟨h1.1, by show g.by_ % 21 < 65536; omega, h1.2.2.1, h1.2.2.2⟩, by show g.by_ % 21 ≤ 20; omega⟩
      have hO1 := HO.out
      rw [hBd, ← hBe, ← hBl] at hO1
      have hAb : Ab = none → Bd.length = 0 ∧ c = 0 := by
        rintro rfl
        rcases hO1.2 with ⟨he, h0⟩ | ⟨g', cap', cur', he, _⟩
        · injection he; exact ⟨by omega, by omega⟩
        · injection he with he; cases he
      have HNW := Lib.hid (new_abs Ab c Bd wr (by omega) (Rd.of_own hO1) hAb)
      rw [hBl] at HNW
      have HBD := Lib.hid hBe
      have HBO := Lib.hid hBo
      have HO1 := Lib.hid hO1
      have HBL := Lib.hid hBl
      clear hBd hBe hBl hBo hO1 hAb HO
      have HBR := Lib.hid (show w.heap.size ≤ wr.heap.size from HB.out.size)
      go_wp2_with (go_at_call 49; refine (HNW.out).mono ?_; rintro e w1 ⟨b, F, rfl, hN, hB⟩; have HN := Lib.hid hN; have HB1 := Lib.hid hB; clear hN hB HNW)
      have HL0 : Hid (HL w.heap.size wr.heap.size b F (.slice Ab Bd.length c) Bd w ls.length 0 (newAS Bd) [] [] [] (.slice none 0 0) (.slice none 0 0) (.slice none 0 0) w1) :=
        ⟨⟨HBR.out, HN.out, World.ownsRow_nil _ _ _ _, World.ownsRow_nil _ _ _ _, World.ownsRow_nil _ _ _ _, own_below HO1.out HB1.out, (fun g hg => by cases hg), HB.out.trans (HB1.out.mono HBR.out)⟩,
          by rw [Nat.zero_sub]; exact HI.new Bd (by rw [HBL.out]; omega) (fun f hf => (HBO.out f hf).1), by simp [newAS], by simp, by simp, fun h => by omega⟩
      generalize hbase : wr.heap.size = base at HL0
      clear HN HB1 HB HO1 HRF HOK hlt hi HBR hbase
      go_loopw [9, 10, 11, 12] (fun kv sv tv iv wr => ∃ (i : Nat) (a : AS) (S K T : List Nat) (Ak As At : Option Addr) (ck cs ct : Nat), i ≤ ls.length + 22 ∧ iv = .int .i64 i ∧ kv = .slice Ak S.length ck ∧ sv = .slice As S.length cs ∧ tv = .slice At S.length ct ∧
        Hid (HL w.heap.size base b F (.slice Ab Bd.length c) Bd w ls.length i a S K T (.slice Ak S.length ck) (.slice As S.length cs) (.slice At S.length ct) wr)) (fun _ _ _ iv _ => ls.length + 22 - (intOf iv).toNat)
      case atStart => exact ⟨0, newAS Bd, [], [], [], none, none, none, 0, 0, 0, by omega, rfl, rfl, rfl, rfl, HL0⟩
      case round =>
        obtain ⟨i, a, S, K, T, Ak, As, At, ck, cs, ct, hi, rfl, rfl, rfl, rfl, HH⟩ := hrel
        by_cases hlt : i < ls.length + 22
        · have j1 : decide ((i : Int) < (ls.length : Int) + 22) = true := by simp; omega
          by_cases hil : i < ls.length
          · have j2 : decide ((i : Int) < (ls.length : Int)) = true := by simp; omega
            obtain ⟨gl, ol, hAl, f0, f1, f2⟩ := acell (HRL.out.below HH.out.m.bel) i hil
            subst hAl
            have HPK := Lib.hid (fun W => pick_any ls[i].d 6 W (by omega) (by omega))
            have HPT := Lib.hid (fun W => pick_any ls[i].t 2 W (by omega) (by omega))
            have hm6 := pk_lt ls[i].d 6 (by omega) (by omega)
            have hs2 := pk_lt ls[i].t 2 (by omega) (by omega)
            generalize ls[i].d = ld at *
            generalize ls[i].t = lt at *
            generalize pk ld 6 = m at *
            generalize pk lt 2 = sd at *
            have i0 : (0 : Int) ≤ i := by omega
            by_cases hm3 : m < 3
            · have j3 : decide ((m : Int) < 3) = true := by simp; omega
              have hnK := HH.out.h.nK
              have hnT := HH.out.h.nT
              have hs60 : S.length ≤ 60 := by have := HH.out.s2; omega
              have HA := Lib.hid ((HH.out.m.below ((Below.refl _ wr).alloc (Nat.le_refl _) (Obj.cells #[.int .u8 (S.length : Nat), .int .u8 7] 5))))
              have HSND := Lib.hid (send_abs base b a F sd hs2 _ HA.out.net (HH.out.h.inv.ok (by omega)) (some ⟨wr.heap.size, 0, none⟩) (idB S.length) 2 (by simp [idB]) (by simp [idB]) (fun W hW => rd_idB wr W S.length base (by omega) hW))
              have HNEW := Lib.hid ((HH.out.h.less (d' := 0) (by omega)).send (by omega) (by have := HH.out.nw; omega) HBO.out sd hs2)
              have hB0 : w.heap.size ≤ wr.heap.size := HH.out.m.hs.2
              go_wp2_with (first
                | (go_at_call 57; refine (HSND.out).mono ?_; rintro e w5 ⟨rfl, hN5, hF5⟩
                   have HM5 := Lib.hid (HA.out.fr hN5 hF5)
                   have HNOW := Lib.hid (now_abs base b _ F w5 hN5)
                   have h5 : w.heap.size ≤ w5.heap.size := HM5.out.hs.2
                   clear hN5 hF5 HSND HA)
                | (go_at_call 58; refine (HNOW.out).mono ?_; rintro e wz ⟨rfl, rfl⟩)
                | (at_builtin
                   have hb6 := (Below.refl _ w5).alloc (Nat.le_refl _) (Obj.cells #[.int .u64 ((a.send sd (idB S.length)).now : Nat)] 39)
                   have HM6 := Lib.hid (HM5.out.below hb6)
                   refine wpList_append_rd rfl (.tmp 83) (.tmp 86) 97 rfl w.heap.size 39 (.int .u64 0) 1 8 Try.underlying97 info39n rfl (by omega) (.slice As S.length cs) S.length (uv S) rfl HM6.out.rs (some ⟨w5.heap.size, 0, none⟩) 1 1 [.int .u64 ((a.send sd (idB S.length)).now : Nat)] rfl rfl (rd_one _ _ _) (by simp [Value.oneCell']) (by simp only [maxLen]; omega) (by omega) (by simp; omega) ?_
                   intro v7 w7 hown7 hg7 _
                   obtain ⟨A7, c7, rfl, _, _⟩ := own_slice hown7
                   have HM7 := Lib.hid (HM6.out.appS _ _ hown7 hg7)
                   have h7 : w.heap.size ≤ w7.heap.size := HM7.out.hs.2
                   clear hown7 hg7 hb6 HM5 HM6 HNOW)
                | (at_builtin
                   have hb8 := (Below.refl _ w7).alloc (Nat.le_refl _) (Obj.cells #[.int .i64 0] 3)
                   have HM8 := Lib.hid (HM7.out.below hb8)
                   refine wpList_append_rd rfl (.tmp 88) (.tmp 89) 57 rfl w.heap.size 3 (.int .i64 0) 1 8 Try.underlying57 info3n rfl (by omega) (.slice Ak S.length ck) S.length (iv K) rfl (by have := HM8.out.rk; rwa [hnK] at this) (some ⟨w7.heap.size, 0, none⟩) 1 1 [.int .i64 (0 : Nat)] rfl rfl (rd_one _ _ _) (by simp [Value.oneCell']) (by simp only [maxLen]; omega) (by omega) (by simp; omega) ?_
                   intro v9 w9 hown9 hg9 hv9
                   obtain ⟨A9, c9, rfl, _, _⟩ := own_slice hown9
                   have HM9 := Lib.hid (HM8.out.appK 0 _ (by rw [hnK]; exact hown9) hg9 hv9)
                   have h9 : w.heap.size ≤ w9.heap.size := HM9.out.hs.2
                   clear hown9 hg9 hv9 hb8 HM7 HM8)
                | (at_builtin
                   have hb10 := (Below.refl _ w9).alloc (Nat.le_refl _) (Obj.cells #[.int .i64 (sd : Nat)] 3)
                   have HM10 := Lib.hid (HM9.out.below hb10)
                   refine wpList_append_rd rfl (.tmp 91) (.tmp 93) 57 rfl w.heap.size 3 (.int .i64 0) 1 8 Try.underlying57 info3n rfl (by omega) (.slice At S.length ct) S.length (iv T) rfl (by have := HM10.out.rt; rwa [hnT] at this) (some ⟨w9.heap.size, 0, none⟩) 1 1 [.int .i64 (sd : Nat)] rfl rfl (rd_one _ _ _) (by simp [Value.oneCell']) (by simp only [maxLen]; omega) (by omega) (by simp; omega) ?_
                   intro v11 w11 hown11 hg11 hv11
                   obtain ⟨A11, c11, rfl, _, _⟩ := own_slice hown11
                   have HM11 := Lib.hid (HM10.out.appT sd _ (by rw [hnT]; exact hown11) hg11 hv11)
                   clear hown11 hg11 hv11 hb10 HM9 HM10)
                | (go_at_call 29; have hx := HPK; clear HPK; refine (hx.out _).mono ?_; rintro e wz ⟨rfl, rfl⟩; clear hx)
                | (go_at_call 29; have hx := HPT; clear HPT; refine (hx.out _).mono ?_; rintro e wz ⟨rfl, rfl⟩; clear hx))
              refine ⟨⟨i + 1, a.send sd (idB S.length), S ++ [a.now], K ++ [0], T ++ [sd], A9, A7, A11, c9, c7, c11, by omega, by go_num, by simp, by simp, by simp, ?_⟩, by simp [intOf]; omega⟩
              have hm := HM11.out
              rw [send_now] at hm
              refine ⟨?_, ?_, ?_, ?_, ?_, fun h => by omega⟩
              · rw [List.length_append, List.length_singleton]; exact hm
              · rw [show i + 1 - ls.length = 0 by omega]; exact HNEW.out
              · rw [send_now]; have := HH.out.nw; omega
              · simp; have := HH.out.s1; omega
              · simp; have := HH.out.s1; omega
            · have j3 : decide ((m : Int) < 3) = false := by simp; omega
              have j3n : ¬ m < 3 := hm3
              by_cases hm5 : m < 5
              · have j4 : decide ((m : Int) < 5) = true := by simp; omega
                have HTI := Lib.hid (tick_abs base b a F wr HH.out.m.net (HH.out.h.inv.ok (by have := HH.out.s2; omega)))
                have hnw1 : a.tick.now ≤ i + 1 := by have := HH.out.nw; show sat a.now ≤ _; unfold sat; split <;> omega
                clear HPT
                go_wp2_with (first
                  | (go_at_call 29; refine (HPK.out _).mono ?_; rintro e wz ⟨rfl, rfl⟩)
                  | (go_at_call 52; refine (HTI.out).mono ?_; rintro e w2 ⟨rfl, hN2, hF2⟩; have HM2 := Lib.hid (HH.out.m.fr hN2 hF2); clear hN2 hF2 HTI))
                have HI2 : Hid (HI Bd a.tick S K T (i + 1 - ls.length)) := (HH.out.h.tick (by have := HH.out.nw; omega)).less (by omega)
                have hs60 : S.length ≤ 60 := by have := HH.out.s2; omega
                have HS1 := Lib.hid (HH.out.s1)
                have HS2 := Lib.hid (HH.out.s2)
                generalize a.tick = a1 at *
                clear HH HPK
                go_loopw [15] (fun dv wr => ∃ (k : Nat) (a3 : AS) (K3 : List Nat), k ≤ 2 ∧ dv = .int .i64 k ∧ Hid (HM w.heap.size base b F (.slice Ab Bd.length c) Bd w a3 S K3 T (.slice Ak S.length ck) (.slice As S.length cs) (.slice At S.length ct) wr) ∧
                  Hid (HI Bd a3 S K3 T (i + 1 - ls.length)) ∧ Hid (a3.now = a1.now ∧ ∀ j, j < k → ∀ p ∈ a3.l j, a3.now < p.1)) (fun dv _ => 2 - (intOf dv).toNat)
                case atStart => exact ⟨0, a1, K, by omega, rfl, HM2, HI2, rfl, fun j hj => by omega⟩
                case round =>
                  obtain ⟨k, a3, K3, hk, rfl, HM3, HI3, HC3⟩ := hrel
                  by_cases hk2 : k < 2
                  · obtain ⟨W3, hW3⟩ : ∃ W3, W3 = wr := ⟨_, rfl⟩
                    have HTK := Lib.hid (take_abs base b a3 F k hk2 _ HM3.out.net (HI3.out.inv.ok (by omega)))
                    go_wp2_with (go_at_call 54; refine (HTK.out).mono ?_; rintro e w5 ⟨os, Ao, co, rfl, ho, hoa, hmp, hnr, hfr⟩
                                 rw [← hW3] at ho hoa
                                 have HO := Lib.hid ho
                                 have HOA := Lib.hid hoa
                                 have HMP := Lib.hid hmp
                                 have HM5 := Lib.hid (HM3.out.fr hnr hfr)
                                 clear ho hoa hmp hnr hfr HTK hW3)
                    have HW5 := Lib.hid HM5.out.hs
                    go_loopw [17] (fun jv wr => ∃ (j : Nat) (K4 : List Nat), j ≤ os.length ∧ jv = .int .i64 j ∧ Hid (HM w.heap.size base b F (.slice Ab Bd.length c) Bd w (a3.take k) S K4 T (.slice Ak S.length ck) (.slice As S.length cs) (.slice At S.length ct) wr) ∧
                      Hid (HT K3 K4 ((os.map (·.2)).take j)) ∧ Hid (wr.ownsRow W3.heap.size 23 1 (.slice Ao os.length co) os.length (os.map (·.1))) ∧ Hid (∀ p ∈ os, OutAt W3.heap.size wr p)) (fun jv _ => os.length - (intOf jv).toNat)
                    case atStart => exact ⟨0, K3, by omega, rfl, HM5, ⟨rfl, fun m h1 h2 => by simp⟩, HO, HOA⟩
                    case round =>
                      obtain ⟨j, K4, hj, rfl, HM6, HT6, HO6, HA6⟩ := hrel
                      by_cases hjo : j < os.length
                      · have hmem : os[j].2 ∈ a3.got k := by rw [← HMP.out]; exact List.mem_map.2 ⟨os[j], List.getElem_mem _, rfl⟩
                        obtain ⟨p, hp, hpn, hpo⟩ := got_mem hmem
                        obtain ⟨m, hmS, hmT, hxs, hTm, hSm⟩ := HI3.out.op k hk2 p hp _ hpo
                        obtain ⟨Aj, cj, hv1, hown1⟩ := HA6.out os[j] (List.getElem_mem _)
                        rw [hxs] at hv1 hown1
                        rw [hv1] at hown1
                        obtain ⟨gj, rfl⟩ : ∃ gj, Aj = some ⟨gj, 0, none⟩ := by
                          rcases hown1.2 with ⟨he, h0⟩ | ⟨g', cap', cur', he, _⟩
                          · simp [idB] at h0
                          · injection he with he; exact ⟨g', he⟩
                        have hm256 : m < 256 := by omega
                        have hby0 : wr.cell? ⟨gj, 0, none⟩ = some (.int .u8 (m : Nat)) := by
                          obtain ⟨b', off', he, hc⟩ := (Rd.of_own hown1) 0 (by simp [idB, bv])
                          injection he with he; injection he with e1 e2; subst e1; subst e2
                          rw [hc]; simp [bv, idB, Nat.mod_eq_of_lt hm256]
                        have hby1 : wr.cell? ⟨gj, 1, none⟩ = some (.int .u8 7) := by
                          obtain ⟨b', off', he, hc⟩ := (Rd.of_own hown1) 1 (by simp [idB, bv])
                          injection he with he; injection he with e1 e2; subst e1; subst e2
                          rw [hc]; simp [bv, idB]
                        obtain ⟨go, oo, rfl, hr0⟩ := (Rd.of_own HO6.out) j (by simpa using hjo)
                        have hrow : wr.cell? ⟨go, oo + j, none⟩ = some (.slice (some ⟨gj, 0, none⟩) 2 cj) := by
                          rw [hr0, List.getElem_map, hv1]; rfl
                        clear hr0
                        have hnK := HI3.out.nK
                        have hnT := HI3.out.nT
                        have hl4 : K4.length = S.length := HT6.out.len.trans hnK
                        obtain ⟨gt, ot, rfl, hct⟩ := rd_iv (by have := HM6.out.rt; rwa [hnT] at this) m hmT
                        obtain ⟨gs, o2, rfl, hcs⟩ := rd_uv HM6.out.rs m hmS
                        rw [hTm] at hct
                        have HNOW := Lib.hid (fun W h => now_abs base b (a3.take k) F W h)
                        have HENN := Lib.hid (callFunc_in (P := Try.prog) (f := 58) (fn := Try.f58) rfl (by kernel_rfl) (by kernel_rfl))
                        have hsn : S[m] < (a3.take k).now := by rw [take_now]; omega
                        generalize hsm : S[m] = sm at *
                        have HXS := Lib.hid (show (os.map (·.2)).take (j + 1) = (os.map (·.2)).take j ++ [idB m] by
                          rw [List.take_succ_eq_append_getElem (by simpa using hjo), List.getElem_map, hxs])
                        have n0 : (0 : Int) ≤ j := by omega
                        have n1 : (j : Int) < os.length := by omega
                        have n2 : (0 : Int) ≤ m := by omega
                        have n3 : (m : Int) < S.length := by omega
                        have n5 : decide ((S.length : Int) ≤ m) = false := by simp; omega
                        have n6 : ¬ (a3.take k).now ≤ sm := by omega
                        have n7 : ¬ S.length ≤ m := by omega
                        clear hmem hp hpn hpo hxs hv1 hown1 hmT hTm hSm hsm hsn
                        go_wp2
                        refine wp_region_still_lit (by kernel_rfl) (by kernel_rfl) ?_
                        repeat still_step
                        still_call ((HNOW.out _ (by exact HM6.out.net.below (Below.refl _ wr).drew)).mono fun _ _ h => ⟨h.1, h.2.symm⟩)
                        repeat still_step
                        refine wpStill_nil ?_
                        change Exit.then _ _ Exit.normal _ wr.drew
                        have hgl : os.length ≤ 120 := by
                          have e1 : os.length = (a3.got k).length := by rw [← HMP.out]; simp
                          have e2 : (a3.got k).length ≤ (a3.come k).length := List.length_filterMap_le _ _
                          have e3 : (a3.come k).length ≤ (a3.l k).length := (List.takeWhile_sublist _).length_le
                          have e4 : (a3.l k).length ≤ 2 * S.length := by unfold AS.l; split; exact HI3.out.inv.n0; exact HI3.out.inv.n1
                          omega
                        have hx4 : K4[m]'(by omega) ≤ 1000 := by
                          have e1 := HT6.out.c m (by omega) (by omega)
                          have e2 := HI3.out.ct m (by omega)
                          have e3 : wantF Bd m ≤ 2 := by unfold wantF; split; omega; split; omega; split <;> omega
                          have e4 : ((os.map (·.2)).take j).countP (· == idB m) ≤ ((os.map (·.2)).take j).length := List.countP_le_length
                          have e5 : ((os.map (·.2)).take j).length ≤ j := by simp; omega
                          omega
                        obtain ⟨gk, ck2, hkv, hcK, hfK, hKE, HM7⟩ := (HM6.out.below ((Below.refl _ wr).drew)).setK m (by omega) (K4[m]'(by omega) + 1)
                        have HT7 := Lib.hid (HT6.out.more m (by omega) (by omega))
                        have HM7 := Lib.hid HM7
                        have HO7 := Lib.hid (own_KE (w := wr.drew) HO6.out hKE (by decide))
                        have HA7 := Lib.hid (fun p hp => (show OutAt W3.heap.size wr.drew p from HA6.out p hp).keepE hKE (by decide))
                        injection hkv with hkv1 hkv2 hkv3
                        subst hkv1
                        generalize hxx : K4[m]'(by omega) = x at *
                        clear hkv2 hkv3 hKE hxx
                        rw [show ((x + 1 : Nat) : Int) = (x : Int) + 1 from by omega] at HM7 HO7 HA7
                        go_wp2
                        refine ⟨⟨j + 1, K4.set m (x + 1), by omega, by go_num, HM7, ?_, HO7, HA7⟩, by simp [intOf]; omega⟩
                        rw [HXS.out]; exact HT7
                      · obtain rfl : j = os.length := by omega
                        have hfull : HT K3 K4 (a3.got k) := by have := HT6.out; rwa [List.take_of_length_le (by simp), HMP.out] at this
                        have HI7 := Lib.hid (HI3.out.take k hk2 K4 hfull.len (fun m h1 h2 => by rw [hfull.c m h1 h2, got_cnt]))
                        have HP := Lib.hid (take_past HM3.out.net k hk2)
                        clear hfull
                        go_wp2
                        refine ⟨⟨k + 1, a3.take k, K4, by omega, by go_num, HM6, HI7, (take_now a3 k).trans HC3.out.1, ?_⟩, by simp [intOf]; omega⟩
                        intro q hq p hp
                        by_cases hqk : q = k
                        · subst hqk; exact HP.out p hp
                        · rw [take_other a3 k q hk2 (by omega) hqk] at hp
                          rw [take_now]; exact HC3.out.2 q (by omega) p hp
                  · obtain rfl : k = 2 := by omega
                    go_wp2
                    refine ⟨⟨i + 1, a3, S, K3, T, Ak, As, At, ck, cs, ct, by omega, by go_num, rfl, rfl, rfl, HM3.out, HI3.out, ?_, by have := HS1.out; omega, HS2.out, fun _ j hj => HC3.out.2 j hj⟩, by simp [intOf]; omega⟩
                    rw [HC3.out.1]; exact hnw1
              · have j4 : decide ((m : Int) < 5) = false := by simp; omega
                have j4n : ¬ m < 5 := hm5
                have hnw1 : a.now ≤ i + 1 := by have := HH.out.nw; omega
                clear HPT
                go_wp2_with (first
                  | (go_at_call 29; refine (HPK.out _).mono ?_; rintro e wz ⟨rfl, rfl⟩))
                have HM2 := Lib.hid (HH.out.m)
                have HI2 : Hid (HI Bd a S K T (i + 1 - ls.length)) := HH.out.h.less (by omega)
                have hs60 : S.length ≤ 60 := by have := HH.out.s2; omega
                have HS1 := Lib.hid (HH.out.s1)
                have HS2 := Lib.hid (HH.out.s2)
                obtain ⟨a1, ha1⟩ : ∃ a1, a1 = a := ⟨_, rfl⟩
                rw [← ha1] at HM2 HI2 hnw1
                clear HH HPK ha1
                go_loopw [15] (fun dv wr => ∃ (k : Nat) (a3 : AS) (K3 : List Nat), k ≤ 2 ∧ dv = .int .i64 k ∧ Hid (HM w.heap.size base b F (.slice Ab Bd.length c) Bd w a3 S K3 T (.slice Ak S.length ck) (.slice As S.length cs) (.slice At S.length ct) wr) ∧
                  Hid (HI Bd a3 S K3 T (i + 1 - ls.length)) ∧ Hid (a3.now = a1.now ∧ ∀ j, j < k → ∀ p ∈ a3.l j, a3.now < p.1)) (fun dv _ => 2 - (intOf dv).toNat)
                case atStart => exact ⟨0, a1, K, by omega, rfl, HM2, HI2, rfl, fun j hj => by omega⟩
                case round =>
                  obtain ⟨k, a3, K3, hk, rfl, HM3, HI3, HC3⟩ := hrel
                  by_cases hk2 : k < 2
                  · obtain ⟨W3, hW3⟩ : ∃ W3, W3 = wr := ⟨_, rfl⟩
                    have HTK := Lib.hid (take_abs base b a3 F k hk2 _ HM3.out.net (HI3.out.inv.ok (by omega)))
                    go_wp2_with (go_at_call 54; refine (HTK.out).mono ?_; rintro e w5 ⟨os, Ao, co, rfl, ho, hoa, hmp, hnr, hfr⟩
                                 rw [← hW3] at ho hoa
                                 have HO := Lib.hid ho
                                 have HOA := Lib.hid hoa
                                 have HMP := Lib.hid hmp
                                 have HM5 := Lib.hid (HM3.out.fr hnr hfr)
                                 clear ho hoa hmp hnr hfr HTK hW3)
                    have HW5 := Lib.hid HM5.out.hs
                    go_loopw [17] (fun jv wr => ∃ (j : Nat) (K4 : List Nat), j ≤ os.length ∧ jv = .int .i64 j ∧ Hid (HM w.heap.size base b F (.slice Ab Bd.length c) Bd w (a3.take k) S K4 T (.slice Ak S.length ck) (.slice As S.length cs) (.slice At S.length ct) wr) ∧
                      Hid (HT K3 K4 ((os.map (·.2)).take j)) ∧ Hid (wr.ownsRow W3.heap.size 23 1 (.slice Ao os.length co) os.length (os.map (·.1))) ∧ Hid (∀ p ∈ os, OutAt W3.heap.size wr p)) (fun jv _ => os.length - (intOf jv).toNat)
                    case atStart => exact ⟨0, K3, by omega, rfl, HM5, ⟨rfl, fun m h1 h2 => by simp⟩, HO, HOA⟩
                    case round =>
                      obtain ⟨j, K4, hj, rfl, HM6, HT6, HO6, HA6⟩ := hrel
                      by_cases hjo : j < os.length
                      · have hmem : os[j].2 ∈ a3.got k := by rw [← HMP.out]; exact List.mem_map.2 ⟨os[j], List.getElem_mem _, rfl⟩
                        obtain ⟨p, hp, hpn, hpo⟩ := got_mem hmem
                        obtain ⟨m, hmS, hmT, hxs, hTm, hSm⟩ := HI3.out.op k hk2 p hp _ hpo
                        obtain ⟨Aj, cj, hv1, hown1⟩ := HA6.out os[j] (List.getElem_mem _)
                        rw [hxs] at hv1 hown1
                        rw [hv1] at hown1
                        obtain ⟨gj, rfl⟩ : ∃ gj, Aj = some ⟨gj, 0, none⟩ := by
                          rcases hown1.2 with ⟨he, h0⟩ | ⟨g', cap', cur', he, _⟩
                          · simp [idB] at h0
                          · injection he with he; exact ⟨g', he⟩
                        have hm256 : m < 256 := by omega
                        have hby0 : wr.cell? ⟨gj, 0, none⟩ = some (.int .u8 (m : Nat)) := by
                          obtain ⟨b', off', he, hc⟩ := (Rd.of_own hown1) 0 (by simp [idB, bv])
                          injection he with he; injection he with e1 e2; subst e1; subst e2
                          rw [hc]; simp [bv, idB, Nat.mod_eq_of_lt hm256]
                        have hby1 : wr.cell? ⟨gj, 1, none⟩ = some (.int .u8 7) := by
                          obtain ⟨b', off', he, hc⟩ := (Rd.of_own hown1) 1 (by simp [idB, bv])
                          injection he with he; injection he with e1 e2; subst e1; subst e2
                          rw [hc]; simp [bv, idB]
                        obtain ⟨go, oo, rfl, hr0⟩ := (Rd.of_own HO6.out) j (by simpa using hjo)
                        have hrow : wr.cell? ⟨go, oo + j, none⟩ = some (.slice (some ⟨gj, 0, none⟩) 2 cj) := by
                          rw [hr0, List.getElem_map, hv1]; rfl
                        clear hr0
                        have hnK := HI3.out.nK
                        have hnT := HI3.out.nT
                        have hl4 : K4.length = S.length := HT6.out.len.trans hnK
                        obtain ⟨gt, ot, rfl, hct⟩ := rd_iv (by have := HM6.out.rt; rwa [hnT] at this) m hmT
                        obtain ⟨gs, o2, rfl, hcs⟩ := rd_uv HM6.out.rs m hmS
                        rw [hTm] at hct
                        have HNOW := Lib.hid (fun W h => now_abs base b (a3.take k) F W h)
                        have HENN := Lib.hid (callFunc_in (P := Try.prog) (f := 58) (fn := Try.f58) rfl (by kernel_rfl) (by kernel_rfl))
                        have hsn : S[m] < (a3.take k).now := by rw [take_now]; omega
                        generalize hsm : S[m] = sm at *
                        have HXS := Lib.hid (show (os.map (·.2)).take (j + 1) = (os.map (·.2)).take j ++ [idB m] by
                          rw [List.take_succ_eq_append_getElem (by simpa using hjo), List.getElem_map, hxs])
                        have n0 : (0 : Int) ≤ j := by omega
                        have n1 : (j : Int) < os.length := by omega
                        have n2 : (0 : Int) ≤ m := by omega
                        have n3 : (m : Int) < S.length := by omega
                        have n5 : decide ((S.length : Int) ≤ m) = false := by simp; omega
                        have n6 : ¬ (a3.take k).now ≤ sm := by omega
                        have n7 : ¬ S.length ≤ m := by omega
                        clear hmem hp hpn hpo hxs hv1 hown1 hmT hTm hSm hsm hsn
                        go_wp2
                        refine wp_region_still_lit (by kernel_rfl) (by kernel_rfl) ?_
                        repeat still_step
                        still_call ((HNOW.out _ (by exact HM6.out.net.below (Below.refl _ wr).drew)).mono fun _ _ h => ⟨h.1, h.2.symm⟩)
                        repeat still_step
                        refine wpStill_nil ?_
                        change Exit.then _ _ Exit.normal _ wr.drew
                        have hgl : os.length ≤ 120 := by
                          have e1 : os.length = (a3.got k).length := by rw [← HMP.out]; simp
                          have e2 : (a3.got k).length ≤ (a3.come k).length := List.length_filterMap_le _ _
                          have e3 : (a3.come k).length ≤ (a3.l k).length := (List.takeWhile_sublist _).length_le
                          have e4 : (a3.l k).length ≤ 2 * S.length := by unfold AS.l; split; exact HI3.out.inv.n0; exact HI3.out.inv.n1
                          omega
                        have hx4 : K4[m]'(by omega) ≤ 1000 := by
                          have e1 := HT6.out.c m (by omega) (by omega)
                          have e2 := HI3.out.ct m (by omega)
                          have e3 : wantF Bd m ≤ 2 := by unfold wantF; split; omega; split; omega; split <;> omega
                          have e4 : ((os.map (·.2)).take j).countP (· == idB m) ≤ ((os.map (·.2)).take j).length := List.countP_le_length
                          have e5 : ((os.map (·.2)).take j).length ≤ j := by simp; omega
                          omega
                        obtain ⟨gk, ck2, hkv, hcK, hfK, hKE, HM7⟩ := (HM6.out.below ((Below.refl _ wr).drew)).setK m (by omega) (K4[m]'(by omega) + 1)
                        have HT7 := Lib.hid (HT6.out.more m (by omega) (by omega))
                        have HM7 := Lib.hid HM7
                        have HO7 := Lib.hid (own_KE (w := wr.drew) HO6.out hKE (by decide))
                        have HA7 := Lib.hid (fun p hp => (show OutAt W3.heap.size wr.drew p from HA6.out p hp).keepE hKE (by decide))
                        injection hkv with hkv1 hkv2 hkv3
                        subst hkv1
                        generalize hxx : K4[m]'(by omega) = x at *
                        clear hkv2 hkv3 hKE hxx
                        rw [show ((x + 1 : Nat) : Int) = (x : Int) + 1 from by omega] at HM7 HO7 HA7
                        go_wp2
                        refine ⟨⟨j + 1, K4.set m (x + 1), by omega, by go_num, HM7, ?_, HO7, HA7⟩, by simp [intOf]; omega⟩
                        rw [HXS.out]; exact HT7
                      · obtain rfl : j = os.length := by omega
                        have hfull : HT K3 K4 (a3.got k) := by have := HT6.out; rwa [List.take_of_length_le (by simp), HMP.out] at this
                        have HI7 := Lib.hid (HI3.out.take k hk2 K4 hfull.len (fun m h1 h2 => by rw [hfull.c m h1 h2, got_cnt]))
                        have HP := Lib.hid (take_past HM3.out.net k hk2)
                        clear hfull
                        go_wp2
                        refine ⟨⟨k + 1, a3.take k, K4, by omega, by go_num, HM6, HI7, (take_now a3 k).trans HC3.out.1, ?_⟩, by simp [intOf]; omega⟩
                        intro q hq p hp
                        by_cases hqk : q = k
                        · subst hqk; exact HP.out p hp
                        · rw [take_other a3 k q hk2 (by omega) hqk] at hp
                          rw [take_now]; exact HC3.out.2 q (by omega) p hp
                  · obtain rfl : k = 2 := by omega
                    go_wp2
                    refine ⟨⟨i + 1, a3, S, K3, T, Ak, As, At, ck, cs, ct, by omega, by go_num, rfl, rfl, rfl, HM3.out, HI3.out, ?_, by have := HS1.out; omega, HS2.out, fun _ j hj => HC3.out.2 j hj⟩, by simp [intOf]; omega⟩
                    rw [HC3.out.1]; exact hnw1
          · have j2 : decide ((i : Int) < (ls.length : Int)) = false := by simp; omega
            have HTI := Lib.hid (tick_abs base b a F wr HH.out.m.net (HH.out.h.inv.ok (by have := HH.out.s2; omega)))
            have hd1 : i + 1 - ls.length = i - ls.length + 1 := by omega
            have hnw1 : a.tick.now ≤ i + 1 := by have := HH.out.nw; show sat a.now ≤ _; unfold sat; split <;> omega
            go_wp2_with (go_at_call 52; refine (HTI.out).mono ?_; rintro e w2 ⟨rfl, hN2, hF2⟩; have HM2 := Lib.hid (HH.out.m.fr hN2 hF2); clear hN2 hF2 HTI)
            have HI2 : Hid (HI Bd a.tick S K T (i + 1 - ls.length)) := by rw [hd1]; exact HH.out.h.tick (by have := HH.out.nw; omega)
            have hs60 : S.length ≤ 60 := by have := HH.out.s2; omega
            have HS1 := Lib.hid (HH.out.s1)
            have HS2 := Lib.hid (HH.out.s2)
            generalize a.tick = a1 at *
            clear HH hd1
            go_loopw [15] (fun dv wr => ∃ (k : Nat) (a3 : AS) (K3 : List Nat), k ≤ 2 ∧ dv = .int .i64 k ∧ Hid (HM w.heap.size base b F (.slice Ab Bd.length c) Bd w a3 S K3 T (.slice Ak S.length ck) (.slice As S.length cs) (.slice At S.length ct) wr) ∧
              Hid (HI Bd a3 S K3 T (i + 1 - ls.length)) ∧ Hid (a3.now = a1.now ∧ ∀ j, j < k → ∀ p ∈ a3.l j, a3.now < p.1)) (fun dv _ => 2 - (intOf dv).toNat)
            case atStart => exact ⟨0, a1, K, by omega, rfl, HM2, HI2, rfl, fun j hj => by omega⟩
            case round =>
              obtain ⟨k, a3, K3, hk, rfl, HM3, HI3, HC3⟩ := hrel
              by_cases hk2 : k < 2
              · obtain ⟨W3, hW3⟩ : ∃ W3, W3 = wr := ⟨_, rfl⟩
                have HTK := Lib.hid (take_abs base b a3 F k hk2 _ HM3.out.net (HI3.out.inv.ok (by omega)))
                go_wp2_with (go_at_call 54; refine (HTK.out).mono ?_; rintro e w5 ⟨os, Ao, co, rfl, ho, hoa, hmp, hnr, hfr⟩
                             rw [← hW3] at ho hoa
                             have HO := Lib.hid ho
                             have HOA := Lib.hid hoa
                             have HMP := Lib.hid hmp
                             have HM5 := Lib.hid (HM3.out.fr hnr hfr)
                             clear ho hoa hmp hnr hfr HTK hW3)
                have HW5 := Lib.hid HM5.out.hs
                go_loopw [17] (fun jv wr => ∃ (j : Nat) (K4 : List Nat), j ≤ os.length ∧ jv = .int .i64 j ∧ Hid (HM w.heap.size base b F (.slice Ab Bd.length c) Bd w (a3.take k) S K4 T (.slice Ak S.length ck) (.slice As S.length cs) (.slice At S.length ct) wr) ∧
                  Hid (HT K3 K4 ((os.map (·.2)).take j)) ∧ Hid (wr.ownsRow W3.heap.size 23 1 (.slice Ao os.length co) os.length (os.map (·.1))) ∧ Hid (∀ p ∈ os, OutAt W3.heap.size wr p)) (fun jv _ => os.length - (intOf jv).toNat)
                case atStart => exact ⟨0, K3, by omega, rfl, HM5, ⟨rfl, fun m h1 h2 => by simp⟩, HO, HOA⟩
                case round =>
                  obtain ⟨j, K4, hj, rfl, HM6, HT6, HO6, HA6⟩ := hrel
                  by_cases hjo : j < os.length
                  · have hmem : os[j].2 ∈ a3.got k := by rw [← HMP.out]; exact List.mem_map.2 ⟨os[j], List.getElem_mem _, rfl⟩
                    obtain ⟨p, hp, hpn, hpo⟩ := got_mem hmem
                    obtain ⟨m, hmS, hmT, hxs, hTm, hSm⟩ := HI3.out.op k hk2 p hp _ hpo
                    obtain ⟨Aj, cj, hv1, hown1⟩ := HA6.out os[j] (List.getElem_mem _)
                    rw [hxs] at hv1 hown1
                    rw [hv1] at hown1
                    obtain ⟨gj, rfl⟩ : ∃ gj, Aj = some ⟨gj, 0, none⟩ := by
                      rcases hown1.2 with ⟨he, h0⟩ | ⟨g', cap', cur', he, _⟩
                      · simp [idB] at h0
                      · injection he with he; exact ⟨g', he⟩
                    have hm256 : m < 256 := by omega
                    have hby0 : wr.cell? ⟨gj, 0, none⟩ = some (.int .u8 (m : Nat)) := by
                      obtain ⟨b', off', he, hc⟩ := (Rd.of_own hown1) 0 (by simp [idB, bv])
                      injection he with he; injection he with e1 e2; subst e1; subst e2
                      rw [hc]; simp [bv, idB, Nat.mod_eq_of_lt hm256]
                    have hby1 : wr.cell? ⟨gj, 1, none⟩ = some (.int .u8 7) := by
                      obtain ⟨b', off', he, hc⟩ := (Rd.of_own hown1) 1 (by simp [idB, bv])
                      injection he with he; injection he with e1 e2; subst e1; subst e2
                      rw [hc]; simp [bv, idB]
                    obtain ⟨go, oo, rfl, hr0⟩ := (Rd.of_own HO6.out) j (by simpa using hjo)
                    have hrow : wr.cell? ⟨go, oo + j, none⟩ = some (.slice (some ⟨gj, 0, none⟩) 2 cj) := by
                      rw [hr0, List.getElem_map, hv1]; rfl
                    clear hr0
                    have hnK := HI3.out.nK
                    have hnT := HI3.out.nT
                    have hl4 : K4.length = S.length := HT6.out.len.trans hnK
                    obtain ⟨gt, ot, rfl, hct⟩ := rd_iv (by have := HM6.out.rt; rwa [hnT] at this) m hmT
                    obtain ⟨gs, o2, rfl, hcs⟩ := rd_uv HM6.out.rs m hmS
                    rw [hTm] at hct
                    have HNOW := Lib.hid (fun W h => now_abs base b (a3.take k) F W h)
                    have HENN := Lib.hid (callFunc_in (P := Try.prog) (f := 58) (fn := Try.f58) rfl (by kernel_rfl) (by kernel_rfl))
                    have hsn : S[m] < (a3.take k).now := by rw [take_now]; omega
                    generalize hsm : S[m] = sm at *
                    have HXS := Lib.hid (show (os.map (·.2)).take (j + 1) = (os.map (·.2)).take j ++ [idB m] by
                      rw [List.take_succ_eq_append_getElem (by simpa using hjo), List.getElem_map, hxs])
                    have n0 : (0 : Int) ≤ j := by omega
                    have n1 : (j : Int) < os.length := by omega
                    have n2 : (0 : Int) ≤ m := by omega
                    have n3 : (m : Int) < S.length := by omega
                    have n5 : decide ((S.length : Int) ≤ m) = false := by simp; omega
                    have n6 : ¬ (a3.take k).now ≤ sm := by omega
                    have n7 : ¬ S.length ≤ m := by omega
                    clear hmem hp hpn hpo hxs hv1 hown1 hmT hTm hSm hsm hsn
                    go_wp2
                    refine wp_region_still_lit (by kernel_rfl) (by kernel_rfl) ?_
                    repeat still_step
                    still_call ((HNOW.out _ (by exact HM6.out.net.below (Below.refl _ wr).drew)).mono fun _ _ h => ⟨h.1, h.2.symm⟩)
                    repeat still_step
                    refine wpStill_nil ?_
                    change Exit.then _ _ Exit.normal _ wr.drew
                    have hgl : os.length ≤ 120 := by
                      have e1 : os.length = (a3.got k).length := by rw [← HMP.out]; simp
                      have e2 : (a3.got k).length ≤ (a3.come k).length := List.length_filterMap_le _ _
                      have e3 : (a3.come k).length ≤ (a3.l k).length := (List.takeWhile_sublist _).length_le
                      have e4 : (a3.l k).length ≤ 2 * S.length := by unfold AS.l; split; exact HI3.out.inv.n0; exact HI3.out.inv.n1
                      omega
                    have hx4 : K4[m]'(by omega) ≤ 1000 := by
                      have e1 := HT6.out.c m (by omega) (by omega)
                      have e2 := HI3.out.ct m (by omega)
                      have e3 : wantF Bd m ≤ 2 := by unfold wantF; split; omega; split; omega; split <;> omega
                      have e4 : ((os.map (·.2)).take j).countP (· == idB m) ≤ ((os.map (·.2)).take j).length := List.countP_le_length
                      have e5 : ((os.map (·.2)).take j).length ≤ j := by simp; omega
                      omega
                    obtain ⟨gk, ck2, hkv, hcK, hfK, hKE, HM7⟩ := (HM6.out.below ((Below.refl _ wr).drew)).setK m (by omega) (K4[m]'(by omega) + 1)
                    have HT7 := Lib.hid (HT6.out.more m (by omega) (by omega))
                    have HM7 := Lib.hid HM7
                    have HO7 := Lib.hid (own_KE (w := wr.drew) HO6.out hKE (by decide))
                    have HA7 := Lib.hid (fun p hp => (show OutAt W3.heap.size wr.drew p from HA6.out p hp).keepE hKE (by decide))
                    injection hkv with hkv1 hkv2 hkv3
                    subst hkv1
                    generalize hxx : K4[m]'(by omega) = x at *
                    clear hkv2 hkv3 hKE hxx
                    rw [show ((x + 1 : Nat) : Int) = (x : Int) + 1 from by omega] at HM7 HO7 HA7
                    go_wp2
                    refine ⟨⟨j + 1, K4.set m (x + 1), by omega, by go_num, HM7, ?_, HO7, HA7⟩, by simp [intOf]; omega⟩
                    rw [HXS.out]; exact HT7
                  · obtain rfl : j = os.length := by omega
                    have hfull : HT K3 K4 (a3.got k) := by have := HT6.out; rwa [List.take_of_length_le (by simp), HMP.out] at this
                    have HI7 := Lib.hid (HI3.out.take k hk2 K4 hfull.len (fun m h1 h2 => by rw [hfull.c m h1 h2, got_cnt]))
                    have HP := Lib.hid (take_past HM3.out.net k hk2)
                    clear hfull
                    go_wp2
                    refine ⟨⟨k + 1, a3.take k, K4, by omega, by go_num, HM6, HI7, (take_now a3 k).trans HC3.out.1, ?_⟩, by simp [intOf]; omega⟩
                    intro q hq p hp
                    by_cases hqk : q = k
                    · subst hqk; exact HP.out p hp
                    · rw [take_other a3 k q hk2 (by omega) hqk] at hp
                      rw [take_now]; exact HC3.out.2 q (by omega) p hp
              · obtain rfl : k = 2 := by omega
                go_wp2
                refine ⟨⟨i + 1, a3, S, K3, T, Ak, As, At, ck, cs, ct, by omega, by go_num, rfl, rfl, rfl, HM3.out, HI3.out, ?_, by have := HS1.out; omega, HS2.out, fun _ j hj => HC3.out.2 j hj⟩, by simp [intOf]; omega⟩
                rw [HC3.out.1]; exact hnw1
        · obtain rfl : i = ls.length + 22 := by omega
          have hd22 : ls.length + 22 - ls.length = 22 := by omega
          obtain ⟨⟨hz0, hz1⟩, hKf⟩ := (show HI Bd a S K T 22 by have := HH.out.h; rwa [hd22] at this).fin (HH.out.c (by omega))
          have HF0 := Lib.hid (flying_abs base b a F 0 (by omega) wr HH.out.m.net)
          have HF1 := Lib.hid (flying_abs base b a F 1 (by omega) wr HH.out.m.net)
          rw [hz0] at HF0
          rw [hz1] at HF1
          simp only [List.length_nil, show ((0 : Nat) : Int) = 0 from rfl, show ((1 : Nat) : Int) = 1 from rfl] at HF0 HF1
          have HKF := Lib.hid hKf
          have HM := Lib.hid HH.out.m
          have hnK := HH.out.h.nK
          have hs60 : S.length ≤ 60 := by have := HH.out.s2; omega
          have HWK := Lib.hid netWorks_any
          obtain ⟨WW, hWW⟩ : ∃ WW, WW = wr := ⟨_, rfl⟩
          rw [← hWW] at HF0 HF1 HM
          have HWW := Lib.hid hWW
          clear hz0 hz1 hKf HH hd22 hWW
          go_wp2
          go_loopw [19] (fun qv wr => ∃ q : Nat, q ≤ S.length ∧ qv = .int .i64 q ∧ wr = WW) (fun qv _ => S.length - (intOf qv).toNat)
          case atStart => exact ⟨0, by omega, rfl, HWW.out.symm⟩
          case round =>
            obtain ⟨q, hq, rfl, rfl⟩ := hrel
            by_cases hqs : q < S.length
            · have hkq := HKF.out q (by omega)
              obtain ⟨gk, ok, rfl, hck⟩ := rd_iv (by have := HM.out.rk; rwa [hnK] at this) q (by omega)
              rw [hkq] at hck
              have q0 : (0 : Int) ≤ q := by omega
              have q1 : (q : Int) < S.length := by omega
              have hbl := HBL.out
              by_cases h0 : fs.length = 0
              · have hw1 : wantF Bd q = 1 := want_nil (by omega) q
                rw [hw1] at hck
                have hd0 : decide ((0 : Int) < fs.length) = false := decide_eq_false (by omega)
                have hz : ¬ 0 < fs.length := by omega
                clear hkq hbl
                go_wp2
                exact ⟨⟨q + 1, by omega, by go_num, trivial⟩, by simp [intOf]; omega⟩
              · have hr : q % fs.length < Bd.length := by rw [hbl]; exact Nat.mod_lt _ (by omega)
                have hwf : wantF Bd q = if Bd[q % fs.length].kind = 1 ∨ Bd[q % fs.length].kind = 4 then 0 else if Bd[q % fs.length].kind = 2 then 2 else 1 := by
                  unfold wantF
                  rw [hbl, List.getElem?_eq_getElem hr]
                obtain ⟨gb, ob, rfl, hcb, -⟩ := fcell (Rd.of_own HM.out.rb) (q % fs.length) hr
                have hmod : ((q : Int).tmod (fs.length : Int)) = ((q % fs.length : Nat) : Int) := by rw [Int.ofNat_tmod]
                rw [hwf] at hck
                generalize Bd[q % fs.length].kind = fk at *
                generalize q % fs.length = r at *
                have r0 : (0 : Int) ≤ r := by omega
                have r1 : (r : Int) < fs.length := by omega
                have hz : 0 < fs.length := by omega
                clear hkq hbl hwf h0 hr
                have hfk : fk = 1 ∨ fk = 4 ∨ fk = 2 ∨ (fk ≠ 1 ∧ fk ≠ 4 ∧ fk ≠ 2) := by omega
                rcases hfk with rfl | rfl | rfl | ⟨k1, k4, k2⟩
                · simp at hck
                  go_wp2
                  exact ⟨⟨q + 1, by omega, by go_num, trivial⟩, by simp [intOf]; omega⟩
                · simp at hck
                  go_wp2
                  exact ⟨⟨q + 1, by omega, by go_num, trivial⟩, by simp [intOf]; omega⟩
                · simp at hck
                  go_wp2
                  exact ⟨⟨q + 1, by omega, by go_num, trivial⟩, by simp [intOf]; omega⟩
                · simp [k1, k2, k4] at hck
                  have e1 : (fk == 1) = false := by simp [k1]
                  have e4 : (fk == 4) = false := by simp [k4]
                  have e2 : (fk == 2) = false := by simp [k2]
                  go_wp2
                  exact ⟨⟨q + 1, by omega, by go_num, trivial⟩, by simp [intOf]; omega⟩
            · obtain rfl : q = S.length := by omega
              go_wp2_with (first
                | (go_at_call 59; have hx := HF0; clear HF0; refine (hx.out).mono ?_; rintro e wz ⟨rfl, rfl⟩; clear hx)
                | (go_at_call 59; have hx := HF1; clear HF1; refine (hx.out).mono ?_; rintro e wz ⟨rfl, rfl⟩; clear hx)
                | (go_at_call 48; refine (HWK.out _).mono ?_; rintro e w9 ⟨rfl, hb9⟩))
              go_ret
              exact ⟨rfl, HM.out.bel.trans (hb9.mono HM.out.hs.2)⟩
theorem netHolds_walk (A Al : Option Addr) (fs : List Fate) (ls : List AV) (cf cl : Nat) (w : World) (hrf : Rd w A (fcells fs)) (hok : ∀ f ∈ fs, f.ok) (hrl : Rd w Al (acells ls)) (hal : ∀ a ∈ ls, a.ok w) :
    Calls Try.prog 14 #[.slice A fs.length cf, .slice Al ls.length cl] w fun e w' => e = .returned (.bool true) ∧ Below w.heap.size w w' := by
  by_cases h : 60 < ls.length ∨ 60 < fs.length
  · exact netHolds_long A Al fs.length ls.length cf cl w h
  · exact netHolds_short A Al fs ls cf cl w (by omega) (by omega) hrf hok hrl hal
end Go.Proofs.Ytnbnghihmophpaa
