/- value: the small functions. -/
import Derived.Test.YtefdkpfndjlpgaaDoorKit
namespace Go.Proofs.YtefdkpfndjlpgaaDoor
open Go.RowKit
theorem number_any (n : Int) (w : World) : Calls Tryd.prog 40 #[.int .i64 n] w fun e w' => e = .returned (.agg #[.int .i64 1, .int .i64 n, .string ⟨#[]⟩, .bool false]) ∧ Gr w w' := by
  go_enter Tryd.func40, Tryd.ntmps40
  go_wp2
  go_returns
  exact ⟨rfl, (Gr.refl _).alloc _⟩
theorem magnitude_any (n : Int) (w : World) (h : Vl.fitsB n = true) : Calls Tryd.prog 53 #[.int .i64 n] w fun e w' => e = .returned (.tuple #[.int .u64 n.natAbs, .bool (Vl.neg n)]) ∧ w' = w := by
  rw [Vl.fits_iff] at h
  go_enter Tryd.func53, Tryd.ntmps53
  go_wp2
  · have h1 : Vl.neg n = true := by simp [Vl.neg]; omega
    have h2 : IntKind.u64.wrap (-IntKind.u64.wrap n) = n.natAbs := by rw [uwrap, uwrap]; omega
    go_returns
    exact ⟨by rw [h1, ← h2]; rfl, rfl⟩
  · have h1 : Vl.neg n = false := by simp [Vl.neg]; omega
    have h2 : n = n.natAbs := by omega
    go_returns
    refine ⟨?_, rfl⟩
    rw [h1, ← h2]; rfl
theorem wide_any (n : Int) (w : World) (h : Vl.fitsB n = true) : Calls Tryd.prog 44 #[.int .i64 n] w fun e w' => e = .returned (.tuple #[.int .u64 (Vl.hi n), .int .u64 (Vl.lo n)]) ∧ w' = w := by
  rw [Vl.fits_iff] at h
  have h1 : IntKind.u64.wrap (n / 9223372036854775808) = Vl.hi n := by rw [uwrap]; unfold Vl.hi; split <;> omega
  have h2 : IntKind.u64.wrap n = Vl.lo n := by rw [uwrap, Vl.lo_val]
  have H1 := hid h1; clear h1
  have H2 := hid h2; clear h2
  go_enter Tryd.func44, Tryd.ntmps44
  go_wp2
  go_returns
  refine ⟨?_, rfl⟩
  rw [← H1.out, ← H2.out]; rfl
theorem truth_any (b : Bool) (w : World) : Calls Tryd.prog 43 #[.bool b] w fun e w' => e = .returned (.agg #[.int .i64 3, .int .i64 0, .string ⟨#[]⟩, .bool b]) ∧ Gr w w' := by
  go_enter Tryd.func43, Tryd.ntmps43
  go_wp2
  go_returns
  exact ⟨rfl, (Gr.refl _).alloc _⟩
theorem lint_any (n : Int) (w : World) : Calls Tryd.prog 11 #[.int .i64 n] w fun e w' => e = .returned (.agg #[.int .i64 1, .int .i64 n, .string ⟨#[]⟩, .bool false]) ∧ Gr w w' := by
  go_enter Tryd.func11, Tryd.ntmps11
  go_wp2
  go_returns
  exact ⟨rfl, (Gr.refl _).alloc _⟩
theorem ltext_any (s : ByteArray) (w : World) : Calls Tryd.prog 25 #[.string s] w fun e w' => e = .returned (.agg #[.int .i64 2, .int .i64 0, .string s, .bool false]) ∧ Gr w w' := by
  go_enter Tryd.func25, Tryd.ntmps25
  go_wp2
  go_returns
  exact ⟨rfl, (Gr.refl _).alloc _⟩
theorem ltruth_any (b : Bool) (w : World) : Calls Tryd.prog 16 #[.bool b] w fun e w' => e = .returned (.agg #[.int .i64 3, .int .i64 0, .string ⟨#[]⟩, .bool b]) ∧ Gr w w' := by
  go_enter Tryd.func16, Tryd.ntmps16
  go_wp2
  go_returns
  exact ⟨rfl, (Gr.refl _).alloc _⟩
theorem rint_any (n : Int) (w : World) : Calls Tryd.prog 15 #[.int .i64 n] w fun e w' => e = .returned (.agg #[.int .i64 1, .int .i64 n, .string ⟨#[]⟩, .bool false]) ∧ Gr w w' := by
  go_enter Tryd.func15, Tryd.ntmps15
  go_wp2
  go_returns
  exact ⟨rfl, (Gr.refl _).alloc _⟩
theorem rtext_any (s : ByteArray) (w : World) : Calls Tryd.prog 38 #[.string s] w fun e w' => e = .returned (.agg #[.int .i64 2, .int .i64 0, .string s, .bool false]) ∧ Gr w w' := by
  go_enter Tryd.func38, Tryd.ntmps38
  go_wp2
  go_returns
  exact ⟨rfl, (Gr.refl _).alloc _⟩
theorem rtruth_any (b : Bool) (w : World) : Calls Tryd.prog 50 #[.bool b] w fun e w' => e = .returned (.agg #[.int .i64 3, .int .i64 0, .string ⟨#[]⟩, .bool b]) ∧ Gr w w' := by
  go_enter Tryd.func50, Tryd.ntmps50
  go_wp2
  go_returns
  exact ⟨rfl, (Gr.refl _).alloc _⟩
theorem rnull_any (w : World) : Calls Tryd.prog 36 #[] w fun e w' => e = .returned (.agg #[.int .i64 0, .int .i64 0, .string ⟨#[]⟩, .bool false]) ∧ Gr w w' := by
  go_enter Tryd.func36, Tryd.ntmps36
  go_wp2
  go_returns
  exact ⟨rfl, by first | exact Gr.refl _ | exact (Gr.refl _).alloc _⟩
def isB (v : V) (t : Int) : Bool := v.t == t || v.t == 0
theorem ris_any (v : V) (t : Int) (w : World) : Calls Tryd.prog 37 #[.agg #[.int .i64 v.t, .int .i64 v.n, .string v.s, .bool v.b], .int .i64 t] w fun e w' => e = .returned (.bool (isB v t)) ∧ Gr w w' := by
  go_enter Tryd.func37, Tryd.ntmps37
  go_wp2
  all_goals go_returns
  · exact ⟨ret_bool (by simp_all [isB]), (Gr.refl _).alloc _⟩
  · exact ⟨rfl, (Gr.refl _).alloc _⟩
theorem ktruth_any (b : Bool) (w : World) : Calls Tryd.prog 52 #[.bool b] w fun e w' => e = .returned (.int .u8 (if b then 1 else 0)) ∧ w' = w := by
  go_enter Tryd.func52, Tryd.ntmps52
  cases b
  all_goals go_wp2
  all_goals go_returns
  all_goals exact ⟨rfl, rfl⟩
end Go.Proofs.YtefdkpfndjlpgaaDoor
