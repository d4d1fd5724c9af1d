/- redo: the law of RedoOnce: bytes turned into a string, and how many records Undo tells. -/
import Derived.Test.YtmanokhadppeeaaOu
import Derived.Laws.BytesArg
namespace Go.Proofs.Ytmanokhadppeeaa
open Go.RowKit
set_option linter.unusedSimpArgs false
set_option linter.unusedVariables false
theorem conv_b {w : World} {oa : Option Addr} {xs : List Int} (c : Nat) (h : BAt w oa xs) : (convert 30 9 (.slice oa xs.length c)).run Try.prog w = .ok (.string (strOfNums xs)) w := by
  have hn : ∀ oa : Option Addr, (convert 30 9 (.slice oa 0 c)).run Try.prog w = .ok (.string (strOfNums [])) w := by
    intro oa
    cases oa with
    | none => exact run_convert_bytes_nil w 30 5 Try.underlying30 Try.underlying5 0 c 9 Try.underlying9
    | some a =>
      have hl : (loadCells a 0).run Try.prog w = .ok (([] : List Int).map (Value.int .u8)).toArray w := by
        have := run_loadCells_list (P := Try.prog) w a [] (fun j v hj => by simp at hj)
        simpa using this
      rw [run_convert_bytes_string w 30 9 5 _ 0 c Try.underlying30 Try.underlying5 Try.underlying9, run_bytesToString w _ 0 c [] hl]
      rfl
  rcases h with h | ⟨b, off, rfl, hb, hr⟩
  · subst h; exact hn oa
  · refine run_convert_bytes_arg w 30 5 Try.underlying30 Try.underlying5 b off xs.length c xs rfl (fun i hi => ?_) 9 Try.underlying9
    have := hr i hi 0 (.int .u8 xs[i]) (by simp [bF])
    simpa [List.getD, List.getElem?_eq_getElem hi] using this
theorem len36 : ∀ s : List Oc, (∀ o ∈ s, o.kind = 3 ∨ o.kind = 6) → s.length = (s.filter fun o => o.kind == 3).length + (s.filter fun o => o.kind == 6).length
  | [], _ => rfl
  | o :: r, h => by
    have ih := len36 r (fun x hx => h x (by simp [hx]))
    rcases h o (by simp) with e | e
    · simp [List.filter_cons, e, ih]; omega
    · simp [List.filter_cons, e, ih]; omega
theorem los_le (ts : List Tx) : losN ts ≤ ts.length := List.length_filter_le _ _
theorem los_at {ts : List Tx} {j : Nat} (h : j < ts.length) : losN (ts.drop j) = (if (ts[j].st == 2) = true then 0 else 1) + losN (ts.drop (j + 1)) := by
  rw [List.drop_eq_getElem_cons h]
  unfold losN
  rw [List.filter_cons]
  by_cases e : (ts[j].st == 2) = true
  · simp [e]
  · simp [e]; omega
theorem clr_at {L : List Ln} {p : Nat} (h : p < L.length) : clrO L (p : Int) = ocC L[p].txn L[p] := by
  unfold clrO
  rw [Int.toNat_natCast, List.getElem?_eq_getElem h]
/-- a record of Undo and its place among the open ones -/
theorem clr_next {s : List Oc} {A : List Int} {L : List Ln} {j at' : Nat} (hj : j < s.length) (hk : s[j].kind = 3) (h : ((s.drop j).filter fun o => o.kind == 3) = (A.drop at').map (clrO L)) :
    ∃ ha : at' < A.length, s[j] = clrO L A[at'] ∧ ((s.drop (j + 1)).filter fun o => o.kind == 3) = (A.drop (at' + 1)).map (clrO L) := by
  rw [List.drop_eq_getElem_cons hj, List.filter_cons] at h
  simp only [hk, beq_self_eq_true, if_true] at h
  by_cases ha : at' < A.length
  · refine ⟨ha, ?_⟩
    rw [List.drop_eq_getElem_cons ha, List.map_cons, List.cons.injEq] at h
    exact h
  · rw [List.drop_eq_nil_of_le (show A.length ≤ at' by omega)] at h
    simp at h
theorem end_next {s : List Oc} {j : Nat} (hj : j < s.length) (hk : s[j].kind = 6) :
    ((s.drop j).filter fun o => o.kind == 3) = ((s.drop (j + 1)).filter fun o => o.kind == 3) ∧ ((s.drop j).filter fun o => o.kind == 6).length = ((s.drop (j + 1)).filter fun o => o.kind == 6).length + 1 := by
  rw [List.drop_eq_getElem_cons hj]
  constructor
  · rw [List.filter_cons]; simp [hk]
  · rw [List.filter_cons]; simp [hk]
theorem clr_next6 {s : List Oc} {j : Nat} (hj : j < s.length) (hk : s[j].kind = 3) : ((s.drop j).filter fun o => o.kind == 6).length = ((s.drop (j + 1)).filter fun o => o.kind == 6).length := by
  rw [List.drop_eq_getElem_cons hj, List.filter_cons]; simp [hk]
end Go.Proofs.Ytmanokhadppeeaa
