/- redo: the law of RedoOnce: plain steps of its loops. -/
import Derived.Test.YtmanokhadppeeaaOt
namespace Go.Proofs.Ytmanokhadppeeaa
open Go.RowKit
set_option linter.unusedSimpArgs false
set_option linter.unusedVariables false
theorem cmt_at {L : List Ln} {j : Nat} (h : j < L.length) : cmtC (L.drop j) = cmtC (L.drop (j + 1)) + if (L[j].kind == 4) = true then 1 else 0 := by
  rw [List.drop_eq_getElem_cons h]
  unfold cmtC
  rw [List.filter_cons]
  split <;> simp_all
theorem open_skip {L : List Ln} {j : Nat} (h : j < L.length) (hk : (L[j].kind == 2) = false) : openTo L (j + 1) = openTo L j := by
  have : openB L j = false := by
    unfold openB
    rw [List.getElem?_eq_getElem h]
    simp [hk]
  simp [openTo, this]
theorem open_at {L : List Ln} {j : Nat} (h : j < L.length) (hk : (L[j].kind == 2) = true) : openTo L (j + 1) = if (!wonB L j L[j] && (goneN L j L[j] == 0)) = true then (j : Int) :: openTo L j else openTo L j := by
  have : openB L j = (!wonB L j L[j] && (goneN L j L[j] == 0)) := by
    unfold openB
    rw [List.getElem?_eq_getElem h]
    simp [hk]
  simp only [openTo, this]
theorem won_at {L : List Ln} {k : Nat} (t : Int) (h : k < L.length) : ((L.drop k).any fun x => (x.kind == 4) && (x.txn == t)) = (((L[k].kind == 4) && (L[k].txn == t)) || (L.drop (k + 1)).any fun x => (x.kind == 4) && (x.txn == t)) := by
  rw [List.drop_eq_getElem_cons h, List.any_cons]
theorem gone_at {L : List Ln} {k : Nat} (t n : Int) (h : k < L.length) : ((L.drop k).filter fun x => (x.kind == 3) && (x.txn == t) && decide (x.next < n)).length = (if ((L[k].kind == 3) && (L[k].txn == t) && decide (L[k].next < n)) = true then 1 else 0) + ((L.drop (k + 1)).filter fun x => (x.kind == 3) && (x.txn == t) && decide (x.next < n)).length := by
  rw [List.drop_eq_getElem_cons h, List.filter_cons]
  split <;> simp <;> omega
theorem cmt_le (L : List Ln) : cmtC L ≤ L.length := List.length_filter_le _ _
end Go.Proofs.Ytmanokhadppeeaa
