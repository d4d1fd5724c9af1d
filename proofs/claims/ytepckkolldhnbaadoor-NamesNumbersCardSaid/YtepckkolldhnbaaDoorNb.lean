/- NamesNumbers: the law's walk. -/
import Derived.Test.YtepckkolldhnbaaDoorAl
import Derived.Test.YtepckkolldhnbaaDoorShelf
import Derived.Lib.AppendIntMem
import Derived.BigQuiet
import Derived.Deep.QuietTactic
namespace Go.Proofs.YtepckkolldhnbaaDoor
open Go.RowKit
set_option linter.unusedVariables false
theorem hid {p : Prop} (h : p) : Hid p := h
set_option maxHeartbeats 1000000 in
set_option maxRecDepth 100000 in
theorem err_name (w : World) (htab : Lib.TabIs Tryd.prog w "internal/strconv.uint64pow10" .u64 Lib.pow10Tab) : Calls Tryd.prog 5 #[.int .i64 190] w fun e w' => e = .returned (.string ⟨#[101, 114, 114, 111, 114, 32, 49, 57, 48]⟩) ∧ Below w.heap.size w w' := by
  go_enter Tryd.func5, Tryd.ntmps5
  go_wp2_with fail
  refine (Tryd.strconv_Itoa 190 (by decide) (by decide) _ htab).mono ?_
  rintro e w1 ⟨rfl, k, os, rfl⟩
  have hb := Lib.below_grow w.heap.size w (Nat.le_refl _) k os
  have hl : (Lib.itoa 190) = [49, 57, 48] := by decide +kernel
  rw [hl]
  go_wp2
  go_ret
  exact ⟨rfl, hb⟩
set_option maxHeartbeats 1000000 in
set_option maxRecDepth 100000 in
theorem err_ok (w : World) : Calls Tryd.prog 5 #[.int .i64 0] w fun e w' => e = .returned (.string ⟨#[101, 114, 114, 111, 114, 32, 48]⟩) ∧ w = w' := by
  go_enter Tryd.func5, Tryd.ntmps5
  go_wp2_with fail
  refine (Tryd.strconv_Itoa_small 0 (by decide) _).mono ?_
  rintro e w1 ⟨rfl, rfl⟩
  have hl : (Lib.decDigits 0) = [48] := by decide +kernel
  rw [hl]
  go_wp2
  go_ret
  exact ⟨rfl, rfl⟩
set_option maxHeartbeats 1000000 in
set_option maxRecDepth 100000 in
theorem names_any (w : World) (htab : Lib.TabIs Tryd.prog w "internal/strconv.uint64pow10" .u64 Lib.pow10Tab) : Calls Tryd.prog 3 #[] w fun e w' => e = .returned (.bool true) ∧ Below w.heap.size w w' := by
  go_enter Tryd.func3, Tryd.ntmps3
  go_wp2_with fail
  refine (all_any _).mono ?_
  rintro e w1 ⟨rfl, hw1⟩
  have hcell : ∀ k, k < 99 → ∃ n : Int, w1.cell? ⟨w.heap.size, k * 2, none⟩ = some (.int .i64 n) ∧ w1.cell? ⟨w.heap.size, k * 2 + 1, none⟩ = some (.int .i64 n) := by rw [hw1]; exact cells_new w
  have hb1 : Below w.heap.size w w1 := by rw [hw1]; exact (Below.refl _ _).alloc (Nat.le_refl _) _
  clear hw1
  go_wp2_with fail
  go_loopw [2] (fun i wr => ∃ k : Nat, i = .int .i64 k ∧ k ≤ 99 ∧ ∃ n, wr = w1.drewN n) (fun i _ => 99 - (intOf i).toNat)
  case atStart => exact ⟨0, rfl, by omega, 0, rfl⟩
  case round =>
    obtain ⟨k, rfl, hk, nq, rfl⟩ := hrel
    by_cases hlt : k < 99
    · obtain ⟨n, c0, c1⟩ := hcell k hlt
      clear hcell
      go_wp2_with fail
      go_quiet (fail)
      go_wp2
      exact ⟨⟨k + 1, by go_num, by omega, _, rfl⟩, by simp [intOf]; omega⟩
    · obtain rfl : k = 99 := by omega
      have htab1 : Lib.TabIs Tryd.prog (w1.drewN nq) "internal/strconv.uint64pow10" .u64 Lib.pow10Tab := tab_keep htab ⟨hb1.os, hb1.tape, hb1.output, hb1.size, hb1.block⟩
      have hb2 : Below w.heap.size w (w1.drewN nq) := ⟨hb1.os, hb1.tape, hb1.output, hb1.size, hb1.block⟩
      clear hcell htab
      go_wp2_with fail
      refine (err_name _ htab1).mono ?_
      rintro e w2 ⟨rfl, hb3⟩
      go_wp2_with fail
      refine (err_ok _).mono ?_
      rintro e w2 ⟨rfl, rfl⟩
      go_wp2
      go_ret
      exact ⟨rfl, hb2.trans (hb3.mono hb2.size)⟩
end Go.Proofs.YtepckkolldhnbaaDoor
