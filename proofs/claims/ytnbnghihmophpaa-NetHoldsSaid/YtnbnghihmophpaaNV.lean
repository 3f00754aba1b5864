/- The net: the stage's theorem, in plain: what is in flight, and what was taken, is what is wanted. -/
import Derived.Test.YtnbnghihmophpaaNU
import Derived.Test.YtnbnghihmophpaaCN
namespace Go.Proofs.Ytnbnghihmophpaa
open Go.RowKit
set_option maxRecDepth 20000
set_option maxHeartbeats 1000000
set_option linter.unusedVariables false
set_option linter.unusedSimpArgs false

theorem open_put (xs : List UInt8) : openB (xs ++ be4 (Crc.sum xs)) = some xs := by
  unfold openB
  have hl : (xs ++ be4 (Crc.sum xs)).length - 4 = xs.length := by simp [be4]
  rw [hl]
  simp
theorem sum_lt (xs : List UInt8) : Crc.sum xs < 4294967296 := by unfold Crc.sum Crc.upd; omega
theorem spoil_ne (x : UInt8) (m : Nat) (h1 : 1 ≤ mx m) (h2 : mx m < 256) : UInt8.ofNat (x.toNat ^^^ mx m) ≠ x := by
  intro h
  have h3 := congrArg UInt8.toNat h
  have hx : x.toNat < 256 := UInt8.toNat_lt _
  have h4 : x.toNat ^^^ mx m < 256 := Nat.xor_lt_two_pow (n := 8) hx h2
  rw [UInt8.toNat_ofNat', Nat.mod_eq_of_lt h4] at h3
  have h5 : x.toNat ^^^ (x.toNat ^^^ mx m) = x.toNat ^^^ x.toNat := by rw [h3]
  rw [← Nat.xor_assoc, Nat.xor_self, Nat.zero_xor] at h5
  omega
theorem mx_pos (m : Nat) : 1 ≤ mx m := by unfold mx; split <;> omega
theorem mx_lt {m : Nat} (h : m < 256) : mx m < 256 := by unfold mx; split <;> omega
theorem open_spoil (xs : List UInt8) (hx : 0 < xs.length) (f : Fate) (hf : f.xor < 256) : openB (spoil f (xs ++ be4 (Crc.sum xs))) = none := by
  have hl : (xs ++ be4 (Crc.sum xs)).length = xs.length + 4 := by simp [be4]
  obtain ⟨k1, -⟩ := spoilAt_lt f.at_ (xs ++ be4 (Crc.sum xs)).length (by omega)
  unfold spoil
  generalize hk : spoilAt f.at_ (xs ++ be4 (Crc.sum xs)).length = k at *
  have hy := spoil_ne ((xs ++ be4 (Crc.sum xs)).getD k 0) f.xor (mx_pos _) (mx_lt hf)
  generalize UInt8.ofNat (((xs ++ be4 (Crc.sum xs)).getD k 0).toNat ^^^ mx f.xor) = y at *
  unfold openB
  rw [List.length_set, hl, Nat.add_sub_cancel, if_neg]
  rw [beq_iff_eq]
  intro h
  by_cases hkx : k < xs.length
  · rw [List.set_append, if_pos hkx] at h
    rw [List.drop_append_of_le_length (by simp), List.drop_of_length_le (by simp), List.nil_append, List.take_append_of_le_length (by simp), List.take_of_length_le (by simp)] at h
    have h2 := be4_inj (sum_lt _) (sum_lt _) h
    have h3 := Crc.sum_inj h2
    have e1 : xs = xs.take k ++ [xs[k]] ++ xs.drop (k + 1) := by rw [List.append_assoc, List.singleton_append, List.getElem_cons_drop, List.take_append_drop]
    have e2 : xs.set k y = xs.take k ++ [y] ++ xs.drop (k + 1) := by rw [List.set_eq_take_append_cons_drop, if_pos hkx, List.append_assoc]; rfl
    rw [e2] at h3
    have h4 := Crc.run_stretch 4294967295 (by omega) (xs.take k) [xs[k]] [y] (xs.drop (k + 1)) rfl (by simp) (by rw [← e1]; exact h3)
    simp only [List.cons.injEq, and_true] at h4
    apply hy
    rw [← h4, List.getD_eq_getElem?_getD, List.getElem?_append_left hkx, List.getElem?_eq_getElem hkx]
    rfl
  · rw [List.set_append, if_neg hkx] at h
    rw [List.drop_append_of_le_length (by simp), List.drop_of_length_le (by simp), List.nil_append, List.take_append_of_le_length (by simp), List.take_of_length_le (by simp)] at h
    have hkl : k - xs.length < (be4 (Crc.sum xs)).length := by simp [be4]; omega
    have h2 := congrArg (fun l => l.getD (k - xs.length) 0) h
    simp only [List.getD_eq_getElem?_getD] at h2
    rw [List.getElem?_set_self hkl] at h2
    apply hy
    rw [List.getD_eq_getElem?_getD, List.getElem?_append_right (by omega)]
    exact h2

def idB (m : Nat) : List UInt8 := [UInt8.ofNat m, 7]
theorem idB_inj {m n : Nat} (hm : m < 256) (hn : n < 256) (h : idB m = idB n) : m = n := by
  simp only [idB, List.cons.injEq, and_true] at h
  have := congrArg UInt8.toNat h
  rwa [UInt8.toNat_ofNat', UInt8.toNat_ofNat', Nat.mod_eq_of_lt hm, Nat.mod_eq_of_lt hn] at this
def wantF (B : List Fate) (m : Nat) : Nat := match B[m % B.length]? with | none => 1 | some f => if f.kind = 1 ∨ f.kind = 4 then 0 else if f.kind = 2 then 2 else 1
def cnt (m : Nat) (l : Fl) : Nat := l.countP (fun p => openB p.2 == some (idB m))
theorem cnt_insE (m : Nat) (l : Fl) (x : Nat × List UInt8) : cnt m (insE l x) = cnt m l + if openB x.2 == some (idB m) then 1 else 0 := by
  unfold cnt insE
  conv => rhs; rw [← List.takeWhile_append_dropWhile (p := fun y : Nat × List UInt8 => decide (y.1 ≤ x.1)) (l := l)]
  rw [List.countP_append, List.countP_append, List.countP_cons]
  omega
theorem cnt_split (m : Nat) (l : Fl) (p : Nat × List UInt8 → Bool) : cnt m l = cnt m (l.takeWhile p) + cnt m (l.dropWhile p) := by
  unfold cnt
  rw [← List.countP_append, List.takeWhile_append_dropWhile]

structure HI (B : List Fate) (a : AS) (S K T : List Nat) (d : Nat) : Prop where
  ft : a.fts = B
  nx : a.next = if B.length = 0 then 0 else S.length % B.length
  nK : K.length = S.length
  nT : T.length = S.length
  inv : a.inv S.length
  tl : ∀ m (h : m < T.length), T[m] < 2
  op : ∀ k, k < 2 → ∀ p ∈ a.l k, ∀ xs, openB p.2 = some xs → ∃ m, ∃ (h1 : m < S.length) (h2 : m < T.length), xs = idB m ∧ T[m] = k ∧ S[m] < p.1
  due : ∀ k, k < 2 → ∀ p ∈ a.l k, p.1 + d ≤ a.now + 21
  ct : ∀ m (h : m < K.length), K[m] + cnt m a.l0 + cnt m a.l1 = wantF B m
theorem HI.new (B : List Fate) (hB : B.length ≤ 1000000) (ho : ∀ f ∈ B, f.ok) : HI B (newAS B) [] [] [] 0 :=
  ⟨rfl, by simp [newAS], rfl, rfl, AS.inv.new B hB ho, fun m h => by simp at h, fun k hk p hp => by unfold AS.l newAS at hp; split at hp <;> simp at hp, fun k hk p hp => by unfold AS.l newAS at hp; split at hp <;> simp at hp, fun m h => by simp at h⟩
theorem HI.tick {B : List Fate} {a : AS} {S K T : List Nat} {d : Nat} (h : HI B a S K T d) (hn : a.now ≤ 1000) : HI B a.tick S K T (d + 1) := by
  have e : a.tick.now = a.now + 1 := by show sat a.now = _; unfold sat; rw [if_pos (by omega)]
  exact ⟨h.ft, h.nx, h.nK, h.nT, h.inv.tick, h.tl, h.op, fun k hk p hp => by have := h.due k hk p hp; rw [e]; omega, h.ct⟩
theorem HI.less {B : List Fate} {a : AS} {S K T : List Nat} {d d' : Nat} (h : HI B a S K T d) (hd : d' ≤ d) : HI B a S K T d' :=
  ⟨h.ft, h.nx, h.nK, h.nT, h.inv, h.tl, h.op, fun k hk p hp => by have := h.due k hk p hp; omega, h.ct⟩
theorem put_l (a : AS) (k j : Nat) (hk : k < 2) (hj : j < 2) (x : Nat × List UInt8) : (a.put k x).l j = if j = k then insE (a.l k) x else a.l j := by
  unfold AS.put AS.setl AS.l
  rcases (by omega : k = 0 ∨ k = 1) with rfl | rfl <;> rcases (by omega : j = 0 ∨ j = 1) with rfl | rfl <;> simp
theorem put_cnt (a : AS) (k : Nat) (hk : k < 2) (x : Nat × List UInt8) (m : Nat) : cnt m (a.put k x).l0 + cnt m (a.put k x).l1 = cnt m a.l0 + cnt m a.l1 + if openB x.2 == some (idB m) then 1 else 0 := by
  unfold AS.put AS.setl AS.l
  rcases (by omega : k = 0 ∨ k = 1) with rfl | rfl
  · simp only [if_true, cnt_insE]; omega
  · simp only [Nat.one_ne_zero, if_false, cnt_insE]; omega
theorem put_rest (a : AS) (k : Nat) (x : Nat × List UInt8) : (a.put k x).fts = a.fts ∧ (a.put k x).next = a.next ∧ (a.put k x).now = a.now := by
  unfold AS.put AS.setl; split <;> exact ⟨rfl, rfl, rfl⟩

/-- One put more: a good one of number n, or a spoilt one. -/
structure Gd (a : AS) (S T : List Nat) (n : Nat) : Prop where
  op : ∀ k, k < 2 → ∀ p ∈ a.l k, ∀ xs, openB p.2 = some xs → ∃ m, ∃ (h1 : m < S.length) (h2 : m < T.length), xs = idB m ∧ T[m] = k ∧ S[m] < p.1
  due : ∀ k, k < 2 → ∀ p ∈ a.l k, p.1 ≤ a.now + 21
theorem Gd.put {a : AS} {S T : List Nat} {n : Nat} (h : Gd a S T n) (k : Nat) (hk : k < 2) (x : Nat × List UInt8) (hx : ∀ xs, openB x.2 = some xs → ∃ (h1 : n < S.length) (h2 : n < T.length), xs = idB n ∧ T[n] = k ∧ S[n] < x.1) (hd : x.1 ≤ a.now + 21) : Gd (a.put k x) S T n := by
  constructor
  · intro j hj p hp xs ho
    rw [put_l a k j hk hj] at hp
    split at hp
    · rename_i e; subst e
      rcases insE_mem hp with rfl | hp
      · obtain ⟨h1, h2, r⟩ := hx xs ho; exact ⟨n, h1, h2, r⟩
      · exact h.op j hj p hp xs ho
    · exact h.op j hj p hp xs ho
  · intro j hj p hp
    rw [(put_rest a k x).2.2]
    rw [put_l a k j hk hj] at hp
    split at hp
    · rename_i e; subst e
      rcases insE_mem hp with rfl | hp
      · exact hd
      · exact h.due j hj p hp
    · exact h.due j hj p hp
theorem later_in (now d : Nat) (h : now + d ≤ 18446744073709551615) : later now d = now + d := if_pos h
theorem step_rest (a : AS) : a.step.fts = a.fts ∧ a.step.now = a.now ∧ a.step.l0 = a.l0 ∧ a.step.l1 = a.l1 := by unfold AS.step; split <;> exact ⟨rfl, rfl, rfl, rfl⟩
theorem step_l (a : AS) (k : Nat) : a.step.l k = a.l k := by
  unfold AS.l; split
  · exact (step_rest a).2.2.1
  · exact (step_rest a).2.2.2
theorem does_keep (a : AS) (f : Fate) (k : Nat) (ys : List UInt8) : (a.does f k ys).fts = a.fts ∧ (a.does f k ys).next = a.next ∧ (a.does f k ys).now = a.now := by
  unfold AS.does
  have hp := fun (c : AS) x => put_rest c k x
  split
  · exact ⟨rfl, rfl, rfl⟩
  · split
    · exact ⟨(hp _ _).1.trans (hp _ _).1, (hp _ _).2.1.trans (hp _ _).2.1, (hp _ _).2.2.trans (hp _ _).2.2⟩
    · split
      · exact hp _ _
      · split
        · exact hp _ _
        · exact hp _ _
theorem HI.send {B : List Fate} {a : AS} {S K T : List Nat} (h : HI B a S K T 0) (hn : S.length < 200) (hnow : a.now ≤ 1000) (hB : ∀ f ∈ B, f.ok ∧ f.by_ ≤ 20) (k : Nat) (hk : k < 2) :
    HI B (a.send k (idB S.length)) (S ++ [a.now]) (K ++ [0]) (T ++ [k]) 0 := by
  obtain ⟨n, hnd⟩ : ∃ n, n = S.length := ⟨_, rfl⟩
  have hinv : (a.send k (idB n)).inv (n + 1) := by rw [hnd]; exact h.inv.send k _ (by simp [idB])
  have hfl : a.fts.length = B.length := by rw [h.ft]
  obtain ⟨s1, s2, s3, s4⟩ := step_rest a
  -- the fate
  have hfate : a.fate = match B[n % B.length]? with | some f => f.norm | none => noFate := by
    unfold AS.fate
    rw [h.ft, h.nx]
    by_cases h0 : B.length = 0
    · have hb : B = [] := List.eq_nil_of_length_eq_zero h0
      subst hb; simp
    · rw [if_neg h0, hnd]; rfl
  have hby : a.fate.by_ ≤ 20 ∧ a.fate.xor < 256 := by
    rw [hfate]
    cases hg : B[n % B.length]? with
    | none => simp [noFate]
    | some f =>
      obtain ⟨h1, h2⟩ := hB f (List.mem_of_getElem? hg)
      simp only [Fate.norm]
      split
      · exact ⟨h2, h1.2.2.2⟩
      · exact ⟨h2, h1.2.2.2⟩
  have hw : wantF B n = if a.fate.kind = 1 ∨ a.fate.kind = 4 then 0 else if a.fate.kind = 2 then 2 else 1 := by
    rw [hfate]; unfold wantF
    cases hg : B[n % B.length]? with
    | none => simp [noFate]
    | some f =>
      show (if f.kind = 1 ∨ f.kind = 4 then 0 else if f.kind = 2 then 2 else 1) = if f.norm.kind = 1 ∨ f.norm.kind = 4 then 0 else if f.norm.kind = 2 then 2 else 1
      have hq : f.norm.kind = f.kind ∨ (f.norm.kind = 0 ∧ (f.kind < 0 ∨ 5 ≤ f.kind)) := by
        unfold Fate.norm
        split
        · rename_i hr; exact .inr ⟨rfl, hr⟩
        · exact .inl rfl
      rcases hq with e | ⟨e, hr⟩
      · rw [e]
      · rw [e, if_neg (by omega), if_neg (by omega)]; simp
  generalize hf : a.fate = f at *
  have hopen : openB (idB n ++ be4 (Crc.sum (idB n))) = some (idB n) := open_put _
  have hspo : openB (spoil f (idB n ++ be4 (Crc.sum (idB n)))) = none := open_spoil _ (by simp [idB]) f hby.2
  obtain ⟨c, hc⟩ : ∃ c, c = ({ a.step with sent := sat a.sent } : AS) := ⟨_, rfl⟩
  have hcn : c.now = a.now := by rw [hc]; exact s2
  have hsend : a.send k (idB n) = c.does f k (idB n ++ be4 (Crc.sum (idB n))) := by unfold AS.send; rw [hf, hc]
  have hcl : ∀ j, c.l j = a.l j := fun j => by rw [hc]; exact step_l a j
  have hSn : (S ++ [a.now])[n]'(by simp; omega) = a.now := by simp [hnd]
  have hnT : n = T.length := by rw [h.nT, hnd]
  have hTn : (T ++ [k])[n]'(by simp; omega) = k := by subst hnT; simp
  have hg0 : Gd c (S ++ [a.now]) (T ++ [k]) n := by
    constructor
    · intro j hj p hp xs ho
      rw [hcl] at hp
      obtain ⟨m, h1, h2, e1, e2, e3⟩ := h.op j hj p hp xs ho
      exact ⟨m, by simp; omega, by simp; omega, e1, by rw [List.getElem_append_left h2]; exact e2, by rw [List.getElem_append_left h1]; exact e3⟩
    · intro j hj p hp
      rw [hcl] at hp
      rw [hcn]; exact h.due j hj p hp
  have hgood : ∀ due, a.now < due → ∀ xs, openB (idB n ++ be4 (Crc.sum (idB n))) = some xs → ∃ (h1 : n < (S ++ [a.now]).length) (h2 : n < (T ++ [k]).length), xs = idB n ∧ (T ++ [k])[n] = k ∧ (S ++ [a.now])[n] < due := by
    intro due hd xs ho
    rw [hopen] at ho; injection ho with ho
    exact ⟨by simp; omega, by simp [h.nT]; omega, ho.symm, hTn, by rw [hSn]; exact hd⟩
  have hbad : ∀ due, ∀ xs, openB (spoil f (idB n ++ be4 (Crc.sum (idB n)))) = some xs → ∃ (h1 : n < (S ++ [a.now]).length) (h2 : n < (T ++ [k]).length), xs = idB n ∧ (T ++ [k])[n] = k ∧ (S ++ [a.now])[n] < due := by
    intro due xs ho; rw [hspo] at ho; cases ho
  have hl1 : later c.now 1 = a.now + 1 := by rw [hcn]; exact later_in _ _ (by omega)
  have hl2 : later c.now (1 + f.by_) = a.now + (1 + f.by_) := by rw [hcn]; exact later_in _ _ (by omega)
  have hgd : Gd (c.does f k (idB n ++ be4 (Crc.sum (idB n)))) (S ++ [a.now]) (T ++ [k]) n := by
    have hp1 := hg0.put k hk (later c.now 1, idB n ++ be4 (Crc.sum (idB n))) (hgood _ (by rw [hl1]; omega)) (by rw [hl1, hcn]; omega)
    have hp2 := hg0.put k hk (later c.now (1 + f.by_), idB n ++ be4 (Crc.sum (idB n))) (hgood _ (by rw [hl2]; omega)) (by rw [hl2, hcn]; omega)
    have hp3 := hg0.put k hk (later c.now 1, spoil f (idB n ++ be4 (Crc.sum (idB n)))) (hbad _) (by rw [hl1, hcn]; omega)
    unfold AS.does
    split
    · exact ⟨hg0.op, hg0.due⟩
    · split
      · exact hp1.put k hk _ (hgood _ (by rw [hl2]; omega)) (by rw [(put_rest c k _).2.2, hl2, hcn]; omega)
      · split
        · exact hp2
        · split
          · exact hp3
          · exact hp1
  have hcnt : ∀ m, m < 256 → cnt m (c.does f k (idB n ++ be4 (Crc.sum (idB n)))).l0 + cnt m (c.does f k (idB n ++ be4 (Crc.sum (idB n)))).l1 = cnt m a.l0 + cnt m a.l1 + if m = n then wantF B n else 0 := by
    intro m hm
    have e0 : c.l0 = a.l0 := hcl 0
    have e1 : c.l1 = a.l1 := hcl 1
    have hid : (openB (idB n ++ be4 (Crc.sum (idB n))) == some (idB m)) = decide (m = n) := by
      rw [hopen]
      by_cases hmn : m = n
      · subst hmn; simp
      · rw [decide_eq_false hmn, beq_eq_false_iff_ne]
        intro e; injection e with e
        exact hmn (idB_inj hm (by omega) e.symm)
    rw [hw]
    unfold AS.does
    by_cases k1 : f.kind = 1
    · have hz : (if f.kind = 1 ∨ f.kind = 4 then 0 else if f.kind = 2 then 2 else 1) = 0 := if_pos (.inl k1)
      rw [hz, if_pos k1]
      show cnt m c.l0 + cnt m c.l1 = _
      rw [e0, e1]; split <;> rfl
    · rw [if_neg k1]
      by_cases k2 : f.kind = 2
      · have hz : (if f.kind = 1 ∨ f.kind = 4 then 0 else if f.kind = 2 then 2 else 1) = 2 := by rw [if_neg (by omega), if_pos k2]
        rw [hz, if_pos k2, put_cnt _ k hk, put_cnt _ k hk, e0, e1]
        simp only [hid]
        by_cases hmn : m = n <;> simp [hmn]
      · rw [if_neg k2]
        by_cases k3 : f.kind = 3
        · have hz : (if f.kind = 1 ∨ f.kind = 4 then 0 else if f.kind = 2 then 2 else 1) = 1 := by rw [if_neg (by omega), if_neg k2]
          rw [hz, if_pos k3, put_cnt _ k hk, e0, e1]
          simp only [hid]
          by_cases hmn : m = n <;> simp [hmn]
        · rw [if_neg k3]
          by_cases k4 : f.kind = 4
          · have hz : (if f.kind = 1 ∨ f.kind = 4 then 0 else if f.kind = 2 then 2 else 1) = 0 := if_pos (.inr k4)
            rw [hz, if_pos k4, put_cnt _ k hk, e0, e1]
            simp only [hspo]
            by_cases hmn : m = n <;> simp [hmn]
          · have hz : (if f.kind = 1 ∨ f.kind = 4 then 0 else if f.kind = 2 then 2 else 1) = 1 := by rw [if_neg (by omega), if_neg k2]
            rw [hz, if_neg k4, put_cnt _ k hk, e0, e1]
            simp only [hid]
            by_cases hmn : m = n <;> simp [hmn]
  obtain ⟨d1, d2, d3⟩ := does_keep c f k (idB n ++ be4 (Crc.sum (idB n)))
  rw [← hnd]
  rw [hsend] at hinv ⊢
  refine ⟨?_, ?_, by simp [h.nK], by simp [h.nT], by simpa [hnd] using hinv, ?_, hgd.op, fun j hj p hp => by have := hgd.due j hj p hp; omega, ?_⟩
  · rw [d1, hc]; exact s1.trans h.ft
  · rw [d2, hc]
    show a.step.next = _
    unfold AS.step
    by_cases h0 : B.length = 0
    · rw [if_pos (by rw [hfl]; exact h0), h.nx, if_pos h0, if_pos h0]
    · rw [if_neg (by rw [hfl]; exact h0), if_neg h0]
      simp only [hfl]
      rw [h.nx, if_neg h0, List.length_append, List.length_singleton, Nat.mod_add_mod]
  · intro m hm
    rcases Nat.lt_or_ge m T.length with h1 | h1
    · rw [List.getElem_append_left h1]; exact h.tl m h1
    · rw [List.getElem_append_right h1]; simp; exact hk
  · intro m hm
    have hmn : m ≤ n := by have := h.nK; simp at hm; omega
    have h2 := hcnt m (by omega)
    rcases Nat.lt_or_ge m K.length with h1 | h1
    · rw [List.getElem_append_left h1, Nat.add_assoc, h2, if_neg (by have := h.nK; omega), Nat.add_zero, ← Nat.add_assoc]
      exact h.ct m h1
    · have hme : m = n := by have := h.nK; omega
      rw [List.getElem_append_right h1]
      simp only [List.getElem_singleton, Nat.zero_add]
      rw [h2, if_pos hme, hme]
      have hz : ∀ j, j < 2 → cnt n (a.l j) = 0 := by
        intro j hj
        unfold cnt
        rw [List.countP_eq_zero]
        intro p hp he
        rw [beq_iff_eq] at he
        obtain ⟨m', h1', _, e, _, _⟩ := h.op j hj p hp _ he
        have := idB_inj (by omega) (by omega) e
        omega
      have z0 := hz 0 (by omega)
      have z1 := hz 1 (by omega)
      have z0' : cnt n a.l0 = 0 := z0
      have z1' : cnt n a.l1 = 0 := z1
      rw [z0', z1']; omega

/-! ### Taking -/
theorem HI.take {B : List Fate} {a : AS} {S K T : List Nat} {d : Nat} (h : HI B a S K T d) (k : Nat) (hk : k < 2) (K' : List Nat) (hK : K'.length = K.length) (hc : ∀ m (h1 : m < K'.length) (h2 : m < K.length), K'[m] = K[m] + cnt m (a.come k)) : HI B (a.take k) S K' T d := by
  have hl : ∀ j, j < 2 → (a.take k).l j = if j = k then (a.l k).dropWhile (fun y => y.1 ≤ a.now) else a.l j := by
    intro j hj
    unfold AS.take AS.setl AS.l
    rcases (by omega : k = 0 ∨ k = 1) with rfl | rfl <;> rcases (by omega : j = 0 ∨ j = 1) with rfl | rfl <;> simp
  have hmem : ∀ j, j < 2 → ∀ p ∈ (a.take k).l j, p ∈ a.l j := by
    intro j hj p hp
    rw [hl j hj] at hp
    split at hp
    · rename_i e; subst e; exact List.dropWhile_subset _ hp
    · exact hp
  have e1 : (a.take k).fts = a.fts ∧ (a.take k).next = a.next ∧ (a.take k).now = a.now := by
    unfold AS.take AS.setl; split <;> exact ⟨rfl, rfl, rfl⟩
  refine ⟨e1.1.trans h.ft, e1.2.1.trans h.nx, hK.trans h.nK, h.nT, h.inv.take k, h.tl, fun j hj p hp => h.op j hj p (hmem j hj p hp), fun j hj p hp => by rw [e1.2.2]; exact h.due j hj p (hmem j hj p hp), ?_⟩
  intro m hm
  have h0 := h.ct m (by omega)
  rw [hc m hm (by omega), ← h0]
  have hs := cnt_split m (a.l k) (fun y => decide (y.1 ≤ a.now))
  have q0 := hl 0 (by omega)
  have q1 := hl 1 (by omega)
  have r0 : (a.take k).l0 = (a.take k).l 0 := rfl
  have r1 : (a.take k).l1 = (a.take k).l 1 := rfl
  rw [r0, r1, q0, q1]
  unfold AS.come
  rcases (by omega : k = 0 ∨ k = 1) with rfl | rfl
  · simp only [if_true, Nat.one_ne_zero, if_false]
    have t0 : a.l 0 = a.l0 := rfl
    have t1 : a.l 1 = a.l1 := rfl
    rw [t0] at hs ⊢; rw [t1]; omega
  · simp only [if_true, Nat.zero_ne_one, if_false]
    have t0 : a.l 0 = a.l0 := rfl
    have t1 : a.l 1 = a.l1 := rfl
    rw [t1] at hs ⊢; rw [t0]; omega
/-- At the end: nothing is in flight, and each was taken as often as is wanted. -/
theorem HI.fin {B : List Fate} {a : AS} {S K T : List Nat} (h : HI B a S K T 22) (hc : ∀ k, k < 2 → ∀ p ∈ a.l k, a.now < p.1) : (a.l 0 = [] ∧ a.l 1 = []) ∧ ∀ m (hm : m < K.length), K[m] = wantF B m := by
  have hz : ∀ k, k < 2 → a.l k = [] := by
    intro k hk
    cases hlk : a.l k with
    | nil => rfl
    | cons p l =>
      have hp : p ∈ a.l k := by rw [hlk]; simp
      have := h.due k hk p hp
      have := hc k hk p hp
      omega
  refine ⟨⟨hz 0 (by omega), hz 1 (by omega)⟩, fun m hm => ?_⟩
  have h1 := h.ct m hm
  have z0 : a.l0 = [] := hz 0 (by omega)
  have z1 : a.l1 = [] := hz 1 (by omega)
  rw [z0, z1] at h1
  simpa [cnt] using h1
end Go.Proofs.Ytnbnghihmophpaa
