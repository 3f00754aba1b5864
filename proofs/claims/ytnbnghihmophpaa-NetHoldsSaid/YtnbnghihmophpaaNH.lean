/- The net: the chapter's examples. -/
import Derived.Test.YtnbnghihmophpaaNG
namespace Go.Proofs.Ytnbnghihmophpaa
open Go.RowKit
set_option maxRecDepth 20000
set_option maxHeartbeats 4000000
set_option linter.unusedVariables false
set_option linter.unusedSimpArgs false

def er (ds : List Dg) : List (Nat × List UInt8) := ds.map fun d => (d.due, d.b)
def insE (l : List (Nat × List UInt8)) (x : Nat × List UInt8) : List (Nat × List UInt8) := l.takeWhile (fun y => y.1 ≤ x.1) ++ x :: l.dropWhile (fun y => y.1 ≤ x.1)
theorem er_ins (ds : List Dg) (d : Dg) : er (ins ds d) = insE (er ds) (d.due, d.b) := by
  unfold ins insE er
  induction ds with
  | nil => simp
  | cons x xs ih =>
    by_cases h : x.due ≤ d.due
    · simp [List.takeWhile_cons, List.dropWhile_cons, h] at ih ⊢; exact ih
    · simp [List.takeWhile_cons, List.dropWhile_cons, h]
theorem er_come (s : NS) : er (come s) = (er s.u1).takeWhile (fun y => y.1 ≤ s.now) := by
  unfold come er
  induction s.u1 with
  | nil => simp
  | cons x xs ih =>
    by_cases h : x.due ≤ s.now
    · simp [List.takeWhile_cons, h] at ih ⊢; exact ih
    · simp [List.takeWhile_cons, h]
theorem er_left (s : NS) : er (left s) = (er s.u1).dropWhile (fun y => y.1 ≤ s.now) := by
  unfold left er
  induction s.u1 with
  | nil => simp
  | cons x xs ih =>
    by_cases h : x.due ≤ s.now
    · simp [List.dropWhile_cons, h] at ih ⊢; exact ih
    · simp [List.dropWhile_cons, h]
theorem come_open (ds : List Dg) : ds.filterMap (fun d => openB d.b) = (er ds).filterMap (fun p => openB p.2) := by simp [er, List.filterMap_map, Function.comp_def]
def tkE (t : Nat) (l : List (Nat × List UInt8)) : Nat := l.foldl (fun t p => if (openB p.2).isSome then sat t else t) t
def bdE (t : Nat) (l : List (Nat × List UInt8)) : Nat := l.foldl (fun t p => if (openB p.2).isSome then t else sat t) t
theorem tkT_er (t : Nat) (ds : List Dg) : tkT t ds = tkE t (er ds) := by simp [tkT, tkE, er, List.foldl_map]
theorem tkB_er (t : Nat) (ds : List Dg) : tkB t ds = bdE t (er ds) := by simp [tkB, bdE, er, List.foldl_map]
def pa : List UInt8 := [97] ++ be4 (Crc.sum [97])
def pc : List UInt8 := [99] ++ be4 (Crc.sum [99])
def pd : List UInt8 := ([100] ++ be4 (Crc.sum [100])).set 0 101
theorem open_pa : openB pa = some [97] := by decide +kernel
theorem open_pc : openB pc = some [99] := by decide +kernel
theorem open_pd : openB pd = none := by decide +kernel
end Go.Proofs.Ytnbnghihmophpaa
