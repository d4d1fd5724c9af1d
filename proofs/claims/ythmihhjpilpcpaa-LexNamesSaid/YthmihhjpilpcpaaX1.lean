/- two lists of tokens that are the same. -/
import Derived.Test.YthmihhjpilpcpaaAw
import Derived.BigQuiet
import Derived.Deep.QuietTactic
namespace Go.Proofs.Ythmihhjpilpcpaa
open Go.RowKit
set_option linter.unusedVariables false
theorem tok_struct : Try.prog.underlying 29 = some (.struct (Try.prog.fieldsOf 29)) := by kernel_rfl
theorem tok_plain : Try.prog.stoodInHeld 29 = false := by kernel_rfl
theorem tok_same (x0 x2 x3 : Int) (x1 : ByteArray) (W : World) : (Op.equalIn 10000 29 (.agg #[.int .i64 x0, .string x1, .int .i64 x2, .int .i64 x3]) (.agg #[.int .i64 x0, .string x1, .int .i64 x2, .int .i64 x3])).run Try.prog W = .ok true W := by
  rw [run_equalIn_agg W 9999 29 _ _ tok_struct tok_plain]
  go_simp
theorem tok_guard : Try.prog.eqGuardType Try.prog.depth 29 = false := by kernel_rfl
theorem cells_at (l : List Lx.Tok) (k : Nat) (hk : k < l.length) (i : Nat) (hi : i < 4) : (toksCells l)[k * 4 + i]? = (tkCells l[k].tk (l[k].pos : Int))[i]? := by
  induction l generalizing k with
  | nil => simp at hk
  | cons t r ih =>
    have hc : (tkCells t.tk (t.pos : Int)).toList.length = 4 := rfl
    match k with
    | 0 =>
      simp only [toksCells, List.flatMap_cons]
      rw [List.getElem?_append_left (by omega)]
      simp
    | k + 1 =>
      have e : toksCells (t :: r) = (tkCells t.tk (t.pos : Int)).toList ++ toksCells r := by simp [toksCells]
      rw [e, List.getElem?_append_right (by omega), hc, show (k + 1) * 4 + i - 4 = k * 4 + i from by omega]
      exact ih k (by simpa using hk)
set_option maxHeartbeats 1000000 in
set_option maxRecDepth 100000 in
theorem same_any (w : World) (g1 g2 c1 c2 : Nat) (l : List Lx.Tok) (hn : l.length ≤ 4097) (h1 : ∀ j u, (toksCells l)[j]? = some u → w.cell? ⟨g1, j, none⟩ = some u) (h2 : ∀ j u, (toksCells l)[j]? = some u → w.cell? ⟨g2, j, none⟩ = some u) :
    Calls Try.prog 10 #[.slice (some ⟨g1, 0, none⟩) l.length c1, .slice (some ⟨g2, 0, none⟩) l.length c2] w fun e w' => e = .returned (.bool true) ∧ ∃ n, w' = w.drewN n := by
  have H1 := hid h1; clear h1
  have H2 := hid h2; clear h2
  go_enter Try.func10, Try.ntmps10
  go_wp2
  go_loopw [5] (fun i wr => ∃ k : Nat, i = .int .i64 k ∧ k ≤ l.length ∧ ∃ n, wr = w.drewN n) (fun i _ => l.length - (intOf i).toNat)
  case atStart => exact ⟨0, rfl, Nat.zero_le _, 0, rfl⟩
  case round =>
    obtain ⟨k, rfl, hk, n, rfl⟩ := hrel
    by_cases hlt : k < l.length
    · have tg := tok_guard
      have a0 : w.cell? ⟨g1, k * 4, none⟩ = some (.int .i64 (l[k].tk.kind : Int)) := H1.out (k * 4) _ (cells_at l k hlt 0 (by omega))
      have a1 : w.cell? ⟨g1, k * 4 + 1, none⟩ = some (.string ⟨l[k].tk.text.toArray⟩) := H1.out (k * 4 + 1) _ (cells_at l k hlt 1 (by omega))
      have a2 : w.cell? ⟨g1, k * 4 + 2, none⟩ = some (.int .i64 (l[k].tk.num : Int)) := H1.out (k * 4 + 2) _ (cells_at l k hlt 2 (by omega))
      have a3 : w.cell? ⟨g1, k * 4 + 3, none⟩ = some (.int .i64 (l[k].pos : Int)) := H1.out (k * 4 + 3) _ (cells_at l k hlt 3 (by omega))
      have b0 : w.cell? ⟨g2, k * 4, none⟩ = some (.int .i64 (l[k].tk.kind : Int)) := H2.out (k * 4) _ (cells_at l k hlt 0 (by omega))
      have b1 : w.cell? ⟨g2, k * 4 + 1, none⟩ = some (.string ⟨l[k].tk.text.toArray⟩) := H2.out (k * 4 + 1) _ (cells_at l k hlt 1 (by omega))
      have b2 : w.cell? ⟨g2, k * 4 + 2, none⟩ = some (.int .i64 (l[k].tk.num : Int)) := H2.out (k * 4 + 2) _ (cells_at l k hlt 2 (by omega))
      have b3 : w.cell? ⟨g2, k * 4 + 3, none⟩ = some (.int .i64 (l[k].pos : Int)) := H2.out (k * 4 + 3) _ (cells_at l k hlt 3 (by omega))
      generalize (l[k].tk.kind : Int) = x0 at *
      generalize l[k].tk.text = x1 at *
      generalize (l[k].tk.num : Int) = x2 at *
      generalize (l[k].pos : Int) = x3 at *
      have heq := fun W => tok_same x0 x2 x3 ⟨x1.toArray⟩ W
      go_wp2_with fail
      go_quiet (fail)
      go_wp2
      go_roundw
      case rel => exact ⟨k + 1, by go_num, by omega, _, rfl⟩
      case measure => simp [intOf]; omega
    · have hkl : l.length = k := by omega
      clear hlt hk
      go_wp2
      go_ret
      exact ⟨rfl, n, rfl⟩
set_option maxHeartbeats 1000000 in
theorem same_nil (w : World) :
    Calls Try.prog 10 #[.slice none 0 0, .slice none 0 0] w fun e w' => e = .returned (.bool true) ∧ w' = w := by
  go_enter Try.func10, Try.ntmps10
  go_wp2
  refine wp_loop_rounds 1 ?_
  rw [rounds_succ]
  go_wp2
  go_ret
  exact ⟨rfl, rfl⟩
end Go.Proofs.Ythmihhjpilpcpaa
