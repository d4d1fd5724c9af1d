/- awake: what the document fixes. -/
import Derived.Test.YtemhfaknmagebaaDoorT1
namespace Go.Proofs.YtemhfaknmagebaaDoor
open Go.RowKit
set_option linter.unusedSimpArgs false
set_option linter.unusedVariables false
theorem whole_fw (n : Nat) (h : n ≤ 9007199254740992) : Fl.inB (Fl.fw n) = true ∧ intN (Fl.fw n) = n ∧ eqB (Fl.fw n) = true := by
  have hf := Fl.For.fw h
  have hi : intN (Fl.fw n) = n := by unfold intN; rw [hf.int]; rfl
  refine ⟨by rw [hf.inB]; simpa using h, hi, ?_⟩
  unfold eqB
  rw [hi, hf.order hf, Fl.cmp_eq]
  rfl
theorem partS_fw (n : Nat) (h : n ≤ 9007199254740992) : partS (Fl.fw n) = ⟨(Lib.decDigits n).toArray⟩ := by
  obtain ⟨h1, h2, h3⟩ := whole_fw n h
  unfold partS whB
  rw [h1, h2, h3]
  rfl
theorem crow_new (W : World) (a b : Int) : CRow (W.alloc (.cells #[.int .i64 a, .int .i64 b] 55)) W.heap.size 0 [(a, b)] := by
  refine ⟨by simp, fun k hk => ?_⟩
  have : k = 0 := by simp at hk; omega
  subst this
  go_simp
theorem probe_four (W : World) : Calls Tryd.prog 12 #[.agg #[.int .i64 1000, .int .i64 0, .slice (some ⟨W.heap.size, 0, none⟩) 1 1], .int .i64 1] (W.alloc (.cells #[.int .i64 1, .int .i64 300] 55)) fun e w' => e = .returned (.tuple #[.complex .f64 4618441417868443648 4616189618054758400, .int .i64 4, .bool true]) ∧ Gr (W.alloc (.cells #[.int .i64 1, .int .i64 300] 55)) w' := by
  have := probe_any 1000 0 1 W.heap.size 0 1 [(1, 300)] _ (by simp) (crow_new W 1 300) (by omega)
  rw [show probeV (probeL 1000 1 [(1, 300)]) = .tuple #[.complex .f64 4618441417868443648 4616189618054758400, .int .i64 4, .bool true] by kernel_rfl] at this
  exact this
theorem text_three (w : World) (ht : Tab w) : Calls Tryd.prog 6 #[.complex .f64 (Fl.fw 3) (Fl.fw 40)] w fun e w' => e = .returned (.string ⟨#[51, 43, 52, 48, 105]⟩) ∧ Gr w w' := by
  have := text_any (Fl.fw 3) (Fl.fw 40) w ht
  rw [partS_fw 3 (by omega), partS_fw 40 (by omega), Lib.decDigits_one (by omega), Lib.decDigits_two (by omega) (by omega)] at this
  exact this
theorem of_three (w : World) : Calls Tryd.prog 9 #[.int .i64 3, .int .i64 40] w fun e w' => e = .returned (.complex .f64 (Fl.fw 3) (Fl.fw 40)) ∧ w = w' := by
  have := of_any 3 40 w
  rwa [show bnd 3 = 3 by decide, show bnd 40 = 40 by decide] at this
theorem loop_ten (w : World) : Calls Tryd.prog 11 #[.complex .f64 4611686018427387904 4621819117588971520, .int .i64 10, .complex .f64 4607182418800017408 4617315517961601024] w fun e w' => e = .returned (.complex .f64 4622945017495814144 4633641066610819072) ∧ w = w' := by
  have := loop_any 2 10 1 5 10 w (by omega) (by omega) (by omega) (by omega) (by omega)
  rw [show Fl.fw 2 = 4611686018427387904 by kernel_rfl, show Fl.fw 10 = 4621819117588971520 by kernel_rfl, show Fl.fw 1 = 4607182418800017408 by kernel_rfl, show Fl.fw 5 = 4617315517961601024 by kernel_rfl,
    show Fl.fw (min (2 + (10 : Int).toNat * 1) 9007199254740992) = 4622945017495814144 by kernel_rfl, show Fl.fw (min (10 + (10 : Int).toNat * 5) 9007199254740992) = 4633641066610819072 by kernel_rfl] at this
  exact this
theorem less_two (w : World) : Calls Tryd.prog 10 #[.complex .f64 4611686018427387904 4621256167635550208, .complex .f64 4613937818241073152 4607182418800017408] w fun e w' => e = .returned (.bool true) ∧ w = w' := by
  have := less_any 2 9 3 1 w (by omega) (by omega) (by omega) (by omega)
  rw [show Fl.fw 2 = 4611686018427387904 by kernel_rfl, show Fl.fw 9 = 4621256167635550208 by kernel_rfl, show Fl.fw 3 = 4613937818241073152 by kernel_rfl, show Fl.fw 1 = 4607182418800017408 by kernel_rfl] at this
  exact this
set_option maxHeartbeats 2000000 in
set_option maxRecDepth 100000 in
theorem awake_any (w : World) (ht : Tab w) : Calls Tryd.prog 8 #[] w fun e w' => e = .returned (.bool true) ∧ Gr w w' := by
  have o1 : FloatKind.f64.format.order 4618441417868443648 4618441417868443648 = some .eq := by kernel_rfl
  have o2 : FloatKind.f64.format.order 4616189618054758400 4616189618054758400 = some .eq := by kernel_rfl
  have o3 : FloatKind.f64.format.order 4622945017495814144 4622945017495814144 = some .eq := by kernel_rfl
  have o4 : FloatKind.f64.format.order 4633641066610819072 4633641066610819072 = some .eq := by kernel_rfl
  have Ht := hid ht
  clear ht
  go_enter Tryd.func8, Tryd.ntmps8
  go_wp2_with fail
  refine (probe_four _).mono ?_
  rintro e w1 ⟨rfl, hg⟩
  have hg1 : Gr w w1 := ((Gr.refl w).alloc _).trans hg
  go_wp2_with fail
  refine (of_three _).mono ?_
  rintro e w' ⟨rfl, rfl⟩
  go_wp2_with fail
  refine (text_three _ (Ht.out.keep hg1)).mono ?_
  rintro e w2 ⟨rfl, hg2⟩
  go_wp2_with fail
  refine (loop_ten _).mono ?_
  rintro e w' ⟨rfl, rfl⟩
  go_wp2_with fail
  refine (less_two _).mono ?_
  rintro e w' ⟨rfl, rfl⟩
  go_wp2
  go_ret
  exact ⟨rfl, hg1.trans hg2⟩
end Go.Proofs.YtemhfaknmagebaaDoor
