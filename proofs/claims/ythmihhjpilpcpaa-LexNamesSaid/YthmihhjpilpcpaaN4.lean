/- the reference's Reserved: a search in a list. -/
import Derived.Test.YthmihhjpilpcpaaAw
import Derived.Test.YthmihhjpilpcpaaT1
import Derived.Test.YthmihhjpilpcpaaX3
import Derived.Deep.DeepCutAuto
import Derived.Test.YthmihhjpilpcpaaN1
namespace Go.Proofs.Ythmihhjpilpcpaa
open Go.RowKit
set_option linter.unusedVariables false
set_option maxHeartbeats 1000000 in
set_option maxRecDepth 100000 in
theorem rreserved_any (s : ByteArray) (w : World) :
    Calls Try.prog 13 #[.string s] w fun e w' => e = .returned (.bool (keptB s.data.toList)) ∧ Below w.heap.size w w' := by
  go_enter Try.func13, Try.ntmps13
  go_upto_region 3 with (fail)
  have hbel := below_alloc w (.cells (keptL.map (fun x => Value.string (bs x))).toArray 9)
  have hcell : ∀ k (h : k < keptL.length), (w.alloc (.cells (keptL.map (fun x => Value.string (bs x))).toArray 9)).cell? ⟨w.heap.size, k, none⟩ = some (.string (bs keptL[k])) := by
    intro k h
    rw [Lib.cell_of_heap (heap_new w _)]
    simp [h]
  generalize hW : w.alloc (.cells (keptL.map (fun x => Value.string (bs x))).toArray 9) = W at hbel hcell
  change Code.wp _ _ _ _ (w.alloc (.cells (keptL.map (fun x => Value.string (bs x))).toArray 9))
  rw [hW]
  clear hW
  go_loopw [4] (fun i wr => ∃ k : Nat, i = .int .i64 k ∧ k ≤ 58 ∧ wr = W ∧ Hid (keptB s.data.toList = (keptL.drop k).contains s.data.toList)) (fun i _ => 58 - (intOf i).toNat)
  case atStart => exact ⟨0, rfl, Nat.zero_le _, rfl, rfl⟩
  case round =>
    obtain ⟨k, rfl, hk, rfl, H⟩ := hrel
    by_cases hlt : k < 58
    · have hkl : k < keptL.length := hlt
      have hc := hcell k hkl
      have hd := List.drop_eq_getElem_cons hkl
      obtain ⟨x, hx⟩ : ∃ x, x = keptL[k] := ⟨_, rfl⟩
      rw [← hx] at hc hd
      clear hx
      rw [hd] at H
      clear hd hkl
      have hxl : (bs x).toList = x := by rw [ByteArray.toList_eq, bs_list]
      have hsl : s.toList = s.data.toList := ByteArray.toList_eq s
      cases heq : ((bs x).toList == s.toList) with
      | true =>
        have H2 : Hid (keptB s.data.toList = true) := by
          rw [hxl, hsl, beq_iff_eq] at heq
          have := H.out
          refine hid ?_
          rw [this, heq]; simp
        clear H hxl hsl
        go_wp2
        go_ret
        exact ⟨by rw [H2.out]; rfl, hbel⟩
      | false =>
        have H2 : Hid (keptB s.data.toList = (keptL.drop (k + 1)).contains s.data.toList) := by
          rw [hxl, hsl, beq_eq_false_iff_ne] at heq
          have := H.out
          refine hid ?_
          rw [this, List.contains_cons, show (s.data.toList == x) = false from by rw [beq_eq_false_iff_ne]; exact fun e => heq e.symm, Bool.false_or]
        clear H hxl hsl
        go_wp2
        go_roundw
        case rel => exact ⟨k + 1, by go_num, by omega, by first | rfl | trivial, H2⟩
        case measure => simp [intOf]; omega
    · have e : k = 58 := by omega
      subst e
      clear hlt hk
      have H2 : Hid (keptB s.data.toList = false) := by
        have := H.out
        rw [List.drop_eq_nil_of_le (by rw [keptL_len]; omega)] at this
        exact this
      clear H
      go_wp2
      go_ret
      exact ⟨by rw [H2.out]; rfl, hbel⟩
end Go.Proofs.Ythmihhjpilpcpaa
