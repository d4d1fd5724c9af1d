/- cost: part and Text. -/
import Derived.Test.YtemhfaknmagebaaDoorP1
import Derived.Test.YtemhfaknmagebaaDoorWh
import Derived.Test.YtemhfaknmagebaaDoorShelf
import Derived.Lib.AppendIntMem
namespace Go.Proofs.YtemhfaknmagebaaDoor
open Go.RowKit
set_option linter.unusedSimpArgs false
set_option linter.unusedVariables false
/-- the int of a float that lies within the bounds -/
def intN (x : Nat) : Nat := (((Ieee.double.read x).toInt .zero).getD 0).toNat
def eqB (x : Nat) : Bool := Ieee.double.order x (Fl.fw (intN x)) == some .eq
/-- is a float a whole number within the bounds? -/
def whB (x : Nat) : Bool := Fl.inB x && eqB x
def partS (x : Nat) : ByteArray := if whB x then ⟨(Lib.decDigits (intN x)).toArray⟩ else ⟨#[63]⟩
theorem int_run (x : Nat) (h : Fl.inB x = true) : intN x ≤ 9007199254740992 ∧ ∀ W, (convert 22 3 (.float .f64 x)).run Tryd.prog W = .ok (.int .i64 (intN x)) W := by
  obtain ⟨n, h1, h2⟩ := Fl.int_of x h
  have e : intN x = n := by simp [intN, h1]
  rw [e]
  refine ⟨h2, fun W => run_convert_float_int W 22 3 .f64 .i64 x n (by rw [Tryd.underlying22]; rfl) Tryd.underlying3 ?_⟩
  unfold floatToIntVal
  have : (FloatKind.f64.decode x).toInt .zero = some (n : Int) := h1
  rw [this]
  have e1 : IntKind.i64.min = -9223372036854775808 := by decide
  have e2 : IntKind.i64.max = 9223372036854775807 := by decide
  exact if_pos (by rw [e1, e2]; omega)
/-- the table of the library's Itoa -/
def Tab (w : World) : Prop := Lib.TabIs Tryd.prog w "internal/strconv.uint64pow10" .u64 Lib.pow10Tab
theorem Tab.keep {w w' : World} (h : Tab w) (hb : Gr w w') : Tab w' := by
  obtain ⟨g, hg⟩ := Option.isSome_iff_exists.1 (show (Tryd.prog.globalNamed "internal/strconv.uint64pow10").isSome = true by kernel_rfl)
  unfold Tab Lib.TabIs World.var? at *
  rw [hg] at h ⊢
  simp only [Option.bind_some] at h ⊢
  have hlt : g < w.heap.size := by
    rcases Nat.lt_or_ge g w.heap.size with h' | h'
    · exact h'
    · rw [Array.getElem?_eq_none h'] at h; cases h
  rw [Below.block hb _ hlt]
  exact h
theorem itoa_any (n : Nat) (w : World) (h : n ≤ 9007199254740992) (ht : Tab w) : Calls Tryd.prog 27 #[.int .i64 n] w fun e w' => e = .returned (.string ⟨(Lib.decDigits n).toArray⟩) ∧ Gr w w' :=
  (Tryd.strconv_Itoa n (by omega) (by omega) w ht).mono fun e w' ⟨he, k, os, hw⟩ => by
    subst hw
    have : Lib.itoa n = Lib.decDigits n := by unfold Lib.itoa; rw [if_neg (by omega)]; rfl
    exact ⟨by rw [he, this], Lib.below_grow w.heap.size w (Nat.le_refl _) k os⟩
theorem partS_size (x : Nat) : (partS x).size ≤ 20 := by
  unfold partS
  split
  · rename_i h
    have h2 := (int_run x (by unfold whB at h; simp at h; exact h.1)).1
    show (Lib.decDigits (intN x)).toArray.size ≤ 20
    rw [List.size_toArray, Lib.decDigits_length]
    exact Lib.nDigits_le20 _ (by omega)
  · decide
set_option maxHeartbeats 2000000 in
set_option maxRecDepth 100000 in
theorem part_any (x : Nat) (w : World) (ht : Tab w) : Calls Tryd.prog 21 #[.float .f64 x] w fun e w' => e = .returned (.string (partS x)) ∧ Gr w w' := by
  obtain ⟨PS, hPS⟩ : ∃ P, P = partS x := ⟨_, rfl⟩
  rw [← hPS]
  have HP := hid hPS
  clear hPS
  cases hin : Fl.inB x with
  | false =>
    have hp : PS = ⟨#[63]⟩ := by rw [HP.out]; simp [partS, whB, hin]
    subst hp
    clear HP
    unfold Fl.inB Fl.ex at hin
    obtain ⟨b1, t1⟩ : ∃ b, (FloatKind.f64.format.order x 0 == some .gt || FloatKind.f64.format.order x 0 == some .eq) = b := ⟨_, rfl⟩
    obtain ⟨b2, t2⟩ : ∃ b, (FloatKind.f64.format.order x 4845873199050653696 == some .lt || FloatKind.f64.format.order x 4845873199050653696 == some .eq) = b := ⟨_, rfl⟩
    have hb : (b1 && b2) = false := by rw [← t1, ← t2]; exact hin
    clear hin
    cases b1
    · go_enter Tryd.func21, Tryd.ntmps21
      go_wp2
      go_ret
      exact ⟨rfl, Gr.refl _⟩
    · simp only [Bool.true_and] at hb
      subst hb
      go_enter Tryd.func21, Tryd.ntmps21
      go_wp2
      go_ret
      exact ⟨rfl, Gr.refl _⟩
  | true =>
    obtain ⟨hn, hrun⟩ := int_run x hin
    have hfi := fw_int (intN x)
    have HQ : Hid (PS = if eqB x then ⟨(Lib.decDigits (intN x)).toArray⟩ else ⟨#[63]⟩) := hid (by rw [HP.out]; simp [partS, whB, hin])
    clear HP
    unfold Fl.inB Fl.ex at hin
    obtain ⟨t1', t2'⟩ := Bool.and_eq_true_iff.1 hin
    have t1 : (FloatKind.f64.format.order x 0 == some .gt || FloatKind.f64.format.order x 0 == some .eq) = true := t1'
    have t2 : (FloatKind.f64.format.order x 4845873199050653696 == some .lt || FloatKind.f64.format.order x 4845873199050653696 == some .eq) = true := t2'
    obtain ⟨b3, t3⟩ : ∃ b, eqB x = b := ⟨_, rfl⟩
    have t4 : (FloatKind.f64.format.order x (Fl.fw (intN x)) != some .eq) = !b3 := by rw [← t3]; rfl
    have HI := fun W h => itoa_any (intN x) W hn h
    rw [t3] at HQ
    clear hin t1' t2' t3
    generalize intN x = n at *
    have ht' := hid ht
    clear ht
    cases b3
    · have hq : PS = ⟨#[63]⟩ := HQ.out
      subst hq
      go_enter Tryd.func21, Tryd.ntmps21
      go_wp2
      go_ret
      exact ⟨rfl, Gr.refl _⟩
    · have hq : PS = ⟨(Lib.decDigits n).toArray⟩ := HQ.out
      subst hq
      go_enter Tryd.func21, Tryd.ntmps21
      go_wp2_with fail
      refine (HI _ ht'.out).mono ?_
      rintro e w' ⟨rfl, hg⟩
      go_wp2
      go_ret
      exact ⟨rfl, hg⟩
set_option maxHeartbeats 2000000 in
set_option maxRecDepth 100000 in
theorem text_any (x y : Nat) (w : World) (ht : Tab w) : Calls Tryd.prog 6 #[.complex .f64 x y] w fun e w' => e = .returned (.string (partS x ++ ⟨#[43]⟩ ++ partS y ++ ⟨#[105]⟩)) ∧ Gr w w' := by
  have hx := partS_size x
  have hy := partS_size y
  have P1 := fun W h => part_any x W h
  have P2 := fun W h => part_any y W h
  generalize partS x = px at *
  generalize partS y = py at *
  have ht' := hid ht
  clear ht
  go_enter Tryd.func6, Tryd.ntmps6
  go_wp2_with fail
  refine (P1 _ ht'.out).mono ?_
  rintro e w1 ⟨rfl, hg⟩
  go_wp2_with fail
  refine (P2 _ (ht'.out.keep hg)).mono ?_
  rintro e w2 ⟨rfl, hg2⟩
  go_wp2
  go_ret
  exact ⟨rfl, hg.trans hg2⟩
end Go.Proofs.YtemhfaknmagebaaDoor
