/- cost: Of, Less, scaled, Loop over whole numbers. -/
import Derived.Test.YtemhfaknmagebaaKit
namespace Go.Proofs.Ytemhfaknmagebaa
open Go.RowKit
set_option linter.unusedSimpArgs false
set_option linter.unusedVariables false
theorem fw_int (n : Nat) : floatOfInt .f64 (n : Int) = Fl.fw n := by
  unfold floatOfInt
  show Ieee.double.nearest (decide ((n : Int) < 0)) ((n : Int).natAbs) 0 = _
  rw [show decide ((n : Int) < 0) = false by simp, show ((n : Int).natAbs) = n by simp]
  rfl
theorem fw_int' (n : Int) (h : 0 ≤ n) : floatOfInt .f64 n = Fl.fw n.toNat := by
  obtain ⟨m, rfl⟩ := Int.eq_ofNat_of_zero_le h
  rw [fw_int]; rfl
/-- a part from 0 to 2^40 -/
def bnd (n : Int) : Nat := (min (max n 0) 1099511627776).toNat
theorem bnd_le (n : Int) : bnd n ≤ 1099511627776 := by unfold bnd; omega
set_option maxHeartbeats 1000000 in
theorem of_any (p r : Int) (w : World) : Calls Try.prog 17 #[.int .i64 p, .int .i64 r] w fun e w' => e = .returned (.complex .f64 (Fl.fw (bnd p)) (Fl.fw (bnd r))) ∧ w = w' := by
  have e1 : ∀ x : Int, (if x < 0 then 0 else x) = max x 0 := fun x => by omega
  have e2 : ∀ x : Int, (if 1099511627776 < x then 1099511627776 else x) = min x 1099511627776 := fun x => by omega
  have f1 : ∀ x : Int, floatOfInt .f64 (min (max x 0) 1099511627776) = Fl.fw (bnd x) := fun x => fw_int' _ (by omega)
  go_enter Try.func17, Try.ntmps17
  go_wp2
  go_ret
  exact ⟨rfl, rfl⟩
theorem ord_lt {a b : Nat} (ha : a ≤ 9007199254740992) (hb : b ≤ 9007199254740992) (h : a < b) : FloatKind.f64.format.order (Fl.fw a) (Fl.fw b) = some .lt := by
  have := (Fl.For.fw ha).order (Fl.For.fw hb)
  rwa [Fl.cmp_lt h] at this
theorem ord_gt {a b : Nat} (ha : a ≤ 9007199254740992) (hb : b ≤ 9007199254740992) (h : b < a) : FloatKind.f64.format.order (Fl.fw a) (Fl.fw b) = some .gt := by
  have := (Fl.For.fw ha).order (Fl.For.fw hb)
  rwa [Fl.cmp_gt h] at this
theorem ord_eq {a : Nat} (ha : a ≤ 9007199254740992) : FloatKind.f64.format.order (Fl.fw a) (Fl.fw a) = some .eq := by
  have := (Fl.For.fw ha).order (Fl.For.fw ha)
  rwa [Fl.cmp_eq a] at this
/-- is a cost below another? -/
def lessB (a b c d : Nat) : Bool := decide (a < c) || (decide (a = c) && decide (b < d))
set_option maxHeartbeats 1000000 in
theorem less_any (a b c d : Nat) (w : World) (ha : a ≤ 9007199254740992) (hb : b ≤ 9007199254740992) (hc : c ≤ 9007199254740992) (hd : d ≤ 9007199254740992) :
    Calls Try.prog 8 #[.complex .f64 (Fl.fw a) (Fl.fw b), .complex .f64 (Fl.fw c) (Fl.fw d)] w fun e w' => e = .returned (.bool (lessB a b c d)) ∧ w = w' := by
  rcases Nat.lt_trichotomy a c with h | h | h
  · have H := ord_lt ha hc h
    have hR : lessB a b c d = true := by simp [lessB, h]
    rw [hR]
    clear hR ha hb hc hd h
    go_enter Try.func8, Try.ntmps8
    go_wp2
    go_ret
    exact ⟨rfl, rfl⟩
  · subst h
    have H := ord_eq ha
    rcases Nat.lt_trichotomy b d with h | h | h
    · have H2 := ord_lt hb hd h
      have hR : lessB a b a d = true := by simp [lessB, h]
      rw [hR]
      clear hR ha hb hc hd h
      go_enter Try.func8, Try.ntmps8
      go_wp2
      go_ret
      exact ⟨rfl, rfl⟩
    · subst h
      have H2 := ord_eq hb
      have hR : lessB a b a b = false := by simp [lessB]
      rw [hR]
      clear hR ha hb hc hd
      go_enter Try.func8, Try.ntmps8
      go_wp2
      go_ret
      exact ⟨rfl, rfl⟩
    · have H2 := ord_gt hb hd h
      have hR : lessB a b a d = false := by simp [lessB]; omega
      rw [hR]
      clear hR ha hb hc hd h
      go_enter Try.func8, Try.ntmps8
      go_wp2
      go_ret
      exact ⟨rfl, rfl⟩
  · have H := ord_gt ha hc h
    have hR : lessB a b c d = false := by simp [lessB]; omega
    rw [hR]
    clear hR ha hb hc hd h
    go_enter Try.func8, Try.ntmps8
    go_wp2
    go_ret
    exact ⟨rfl, rfl⟩
theorem run_least (ts : Array TypeId) (t : TypeId) (x y : Nat) (w : World) (h : Ieee.double.order x y ≠ none) :
    (Builtin.min_ ts t #[.float .f64 x, .float .f64 y]).run Try.prog w = .ok (.float .f64 (Fl.least x y)) w := by
  have hf : FloatKind.f64.format = Ieee.double := rfl
  unfold Builtin.min_ Fl.least
  simp only [List.foldlM_cons, List.foldlM_nil, Builtin.min2, hf]
  cases ho : Ieee.double.order x y with
  | none => exact absurd ho h
  | some o => cases o <;> simp [FloatKind.decode, hf]
set_option maxHeartbeats 1000000 in
/-- a + n * b, at most 2^53 -/
theorem scaled_any (a n b : Nat) (w : World) (ha : a ≤ 9007199254740992) (hn : n < 2 ^ 64) (hb : b ≤ 9007199254740992) :
    Calls Try.prog 30 #[.float .f64 (Fl.fw a), .float .f64 (Fl.fw n), .float .f64 (Fl.fw b)] w fun e w' => e = .returned (.float .f64 (Fl.fw (min (a + n * b) 9007199254740992))) ∧ w = w' := by
  obtain ⟨p, hp, hp2, s, hs, hs2, he⟩ := Fl.scaled_of a n b ha hn hb
  have M1 := fun W t => run_float_arith (P := Try.prog) W .mul t .f64 (Fl.fw n) (Fl.fw b) p hp
  have M2 := fun W t => run_float_arith (P := Try.prog) W .add t .f64 (Fl.fw a) (Fl.least p Fl.ex) s hs
  have L1 := fun W ts t => run_least ts t p Fl.ex W hp2
  have L2 := fun W ts t => run_least ts t s Fl.ex W hs2
  rw [← he]
  unfold Fl.ex at *
  clear hp hp2 hs hs2 he ha hn hb
  go_enter Try.func30, Try.ntmps30
  go_wp2
  go_ret
  exact ⟨rfl, rfl⟩
set_option maxHeartbeats 1000000 in
theorem loop_any (a b c d : Nat) (rows : Int) (w : World) (ha : a ≤ 9007199254740992) (hb : b ≤ 9007199254740992) (hc : c ≤ 9007199254740992) (hd : d ≤ 9007199254740992) (hr : rows ≤ 9223372036854775807) :
    Calls Try.prog 27 #[.complex .f64 (Fl.fw a) (Fl.fw b), .int .i64 rows, .complex .f64 (Fl.fw c) (Fl.fw d)] w fun e w' =>
      e = .returned (.complex .f64 (Fl.fw (min (a + rows.toNat * c) 9007199254740992)) (Fl.fw (min (b + rows.toNat * d) 9007199254740992))) ∧ w = w' := by
  have e1 : ∀ x : Int, (if x < 0 then 0 else x) = max x 0 := fun x => by omega
  have f1 : floatOfInt .f64 (max rows 0) = Fl.fw rows.toNat := by rw [fw_int' _ (by omega)]; congr 1; omega
  have S1 := fun W => scaled_any a rows.toNat c W ha (by omega) hc
  have S2 := fun W => scaled_any b rows.toNat d W hb (by omega) hd
  clear ha hb hc hd hr
  go_enter Try.func27, Try.ntmps27
  go_wp2_with fail
  refine (S1 _).mono ?_
  rintro e w' ⟨rfl, rfl⟩
  go_wp2_with fail
  refine (S2 _).mono ?_
  rintro e w' ⟨rfl, rfl⟩
  go_wp2
  go_ret
  exact ⟨rfl, rfl⟩
end Go.Proofs.Ytemhfaknmagebaa
