/- plan: small callees. -/
import Derived.Test.YtemhfaknmagebaaP1
namespace Go.Proofs.Ytemhfaknmagebaa
open Go.RowKit
set_option linter.unusedSimpArgs false
set_option linter.unusedVariables false
/-- rows of both, at most 2^40 -/
def timesI (a b : Int) : Int := if 0 < max b 0 ∧ 1099511627776 / max b 0 < max a 0 then 1099511627776 else min (max a 0 * max b 0) 1099511627776
theorem times_bd (a b : Int) : 0 ≤ timesI a b ∧ timesI a b ≤ 1099511627776 := by
  unfold timesI
  split
  · omega
  · have : 0 ≤ max a 0 * max b 0 := Int.mul_nonneg (by omega) (by omega)
    omega
set_option maxHeartbeats 1000000 in
theorem times_any (a b : Int) (w : World) (ha : a ≤ 9223372036854775807) (hb : b ≤ 9223372036854775807) : Calls Try.prog 28 #[.int .i64 a, .int .i64 b] w fun e w' => e = .returned (.int .i64 (timesI a b)) ∧ w' = w := by
  have e1 : ∀ x : Int, (if x < 0 then 0 else x) = max x 0 := fun x => by omega
  have e2 : ∀ x : Int, (if 1099511627776 < x then 1099511627776 else x) = min x 1099511627776 := fun x => by omega
  by_cases h0 : 0 < b
  · have g0 : decide (0 < b) = true := by simpa using h0
    have hm : max b 0 = b := by omega
    have hp : 0 ≤ max a 0 := by omega
    by_cases h1 : 1099511627776 / b < max a 0
    · have hR : Hid (1099511627776 = timesI a b) := hid (by unfold timesI; rw [hm, if_pos ⟨h0, h1⟩])
      have g1 : decide (1099511627776 / b < max a 0) = true := by simpa using h1
      have hb0 : ¬ b = 0 := by omega
      go_enter Try.func28, Try.ntmps28
      go_wp2
      go_ret
      exact ⟨by rw [← hR.out]; rfl, rfl⟩
    · have hR : Hid (min (max a 0 * b) 1099511627776 = timesI a b) := hid (by unfold timesI; rw [hm, if_neg (fun h => h1 h.2)])
      have g1 : decide (1099511627776 / b < max a 0) = false := by simpa using h1
      have hb0 : ¬ b = 0 := by omega
      have hle : max a 0 * b ≤ 1099511627776 := by
        have h2 : max a 0 ≤ 1099511627776 / b := by omega
        calc max a 0 * b ≤ 1099511627776 / b * b := Int.mul_le_mul_of_nonneg_right h2 (by omega)
          _ ≤ 1099511627776 := Int.ediv_mul_le _ hb0
      have hge : 0 ≤ max a 0 * b := Int.mul_nonneg hp (by omega)
      have hw : wrap64 (max a 0 * b) = max a 0 * b := by unfold wrap64; omega
      clear hle hge
      go_enter Try.func28, Try.ntmps28
      go_wp2
      go_ret
      exact ⟨by rw [← hR.out]; rfl, rfl⟩
  · have g0 : decide (0 < b) = false := by simpa using h0
    have hm : max b 0 = 0 := by omega
    have hR : Hid (0 = timesI a b) := hid (by unfold timesI; rw [hm]; simp; omega)
    go_enter Try.func28, Try.ntmps28
    go_wp2
    go_ret
    exact ⟨by rw [← hR.out]; rfl, rfl⟩
/-- the closure that asks for a table -/
theorem is_any (g : Nat) (t tb by_ : Int) (w : World) (hc : w.cell? ⟨g, 0, none⟩ = some (.int .i64 t)) :
    Calls Try.prog 25 #[.agg #[.int .i64 tb, .int .i64 by_], .pointer (some ⟨g, 0, none⟩)] w fun e w' => e = .returned (.bool (tb == t)) ∧ Gr w w' := by
  have hg := lt_of_cell hc
  go_enter Try.func25, Try.ntmps25
  go_wp2
  go_ret
  exact ⟨rfl, (Gr.refl w).alloc _⟩
/-- does a table stand in a plan? -/
def hasP (t : Int) (l : List (Int × Int)) : Bool := l.any fun p => p.1 == t
/-- the closure that asks for a table -/
def isF (g : Nat) : Value := .func (.func 25) #[] #[.pointer (some ⟨g, 0, none⟩)]
set_option maxHeartbeats 2000000 in
set_option maxRecDepth 100000 in
theorem index_any (b off c : Nat) (l : List (Int × Int)) (g : Nat) (t : Int) (w : World) (hl : l.length ≤ 9223372036854775807) (hrow : CRow w b off l) (hc : w.cell? ⟨g, 0, none⟩ = some (.int .i64 t)) :
    Calls Try.prog 29 #[.slice (some ⟨b, off, none⟩) l.length c, .func (.func 25) #[] #[.pointer (some ⟨g, 0, none⟩)]] w fun e w' => (∃ i : Int, e = .returned (.int .i64 i) ∧ decide (i ≥ 0) = hasP t l) ∧ Gr w w' := by
  have hd0 : hasP t l = hasP t (l.drop 0) := rfl
  obtain ⟨RR, hRR⟩ : ∃ R, R = hasP t l := ⟨_, rfl⟩
  rw [← hRR] at hd0 ⊢
  have HR := hid hd0
  clear hRR hd0
  go_enter Try.func29, Try.ntmps29
  go_wp2_with fail
  go_loopw [8] (fun i wr => ∃ k : Nat, i = .int .i64 k ∧ k ≤ l.length ∧ Gr w wr ∧ Hid (RR = hasP t (l.drop k))) (fun i _ => l.length - (intOf i).toNat)
  case atStart => exact ⟨0, rfl, Nat.zero_le _, Gr.refl _, HR⟩
  case round =>
    obtain ⟨k, rfl, hk, hg, H⟩ := hrel
    by_cases hlt : k < l.length
    · obtain ⟨_, hcs⟩ := hrow.keep hg
      obtain ⟨c0, c1⟩ := hcs k hlt
      have HH := H.out
      rw [List.drop_eq_getElem_cons hlt] at HH
      simp only [hasP, List.any_cons] at HH
      generalize l[k] = x at *
      obtain ⟨tb, y⟩ := x
      simp only at c0 c1 HH
      have hbb := lt_of_cell c0
      have I := is_any g t tb y _ (hg.keep hc)
      have hkn : (k : Int) ≤ 9223372036854775807 := by omega
      cases ht : (tb == t)
      · rw [ht] at HH I
        have HH' := hid HH
        clear HH hcs H hrow ht
        go_wp2_with fail
        refine I.mono ?_
        rintro e w1 ⟨rfl, h1⟩
        go_wp2
        exact ⟨⟨k + 1, by go_num, by omega, hg.trans h1, HH'⟩, by simp [intOf]; omega⟩
      · rw [ht] at HH I
        have HH' := hid HH
        clear HH hcs H hrow ht
        go_wp2_with fail
        refine I.mono ?_
        rintro e w1 ⟨rfl, h1⟩
        go_wp2
        go_ret
        exact ⟨⟨_, rfl, by rw [HH'.out]; simp⟩, hg.trans h1⟩
    · obtain rfl : k = l.length := by omega
      have hn : RR = false := by rw [H.out, List.drop_length]; rfl
      subst hn
      go_wp2
      go_ret
      exact ⟨⟨_, rfl, by decide⟩, hg⟩
theorem index_none (oa : Option Addr) (c : Nat) (f : Value) (w : World) :
    Calls Try.prog 29 #[.slice oa 0 c, f] w fun e w' => e = .returned (.int .i64 (-1)) ∧ Gr w w' := by
  go_enter Try.func29, Try.ntmps29
  go_wp2_with fail
  go_loopw [8] (fun i wr => i = .int .i64 0 ∧ Gr w wr) (fun i _ => 0)
  case atStart => exact ⟨rfl, Gr.refl _⟩
  case round =>
    obtain ⟨rfl, hg⟩ := hrel
    go_wp2
    go_ret
    exact ⟨rfl, hg⟩
/-- a slice of paths -/
def PAt (w : World) (oa : Option Addr) (l : List (Int × Int)) : Prop := l = [] ∨ ∃ b off, oa = some ⟨b, off, none⟩ ∧ CRow w b off l
theorem PAt.keep {w w' : World} {oa : Option Addr} {l : List (Int × Int)} (h : PAt w oa l) (hg : Gr w w') : PAt w' oa l := by
  rcases h with h | ⟨b, off, h, hc⟩
  · exact Or.inl h
  · exact Or.inr ⟨b, off, h, hc.keep hg⟩
theorem contains_any (oa : Option Addr) (c : Nat) (l : List (Int × Int)) (g : Nat) (t : Int) (w : World) (hl : l.length ≤ 9223372036854775807) (hp : PAt w oa l) (hc : w.cell? ⟨g, 0, none⟩ = some (.int .i64 t)) :
    Calls Try.prog 24 #[.slice oa l.length c, .func (.func 25) #[] #[.pointer (some ⟨g, 0, none⟩)]] w fun e w' => e = .returned (.bool (hasP t l)) ∧ Gr w w' := by
  rcases hp with rfl | ⟨b, off, rfl, hr⟩
  · have I := index_none oa c (.func (.func 25) #[] #[.pointer (some ⟨g, 0, none⟩)]) w
    simp only [List.length_nil]
    go_enter Try.func24, Try.ntmps24
    go_wp2_with fail
    refine I.mono ?_
    rintro e w1 ⟨rfl, h1⟩
    go_wp2
    go_ret
    exact ⟨rfl, h1⟩
  · have I := index_any b off c l g t w hl hr hc
    go_enter Try.func24, Try.ntmps24
    go_wp2_with fail
    refine I.mono ?_
    rintro e w1 ⟨⟨i, rfl, hi⟩, h1⟩
    have Hi := hid hi
    clear hi I
    go_wp2
    go_ret
    refine ⟨?_, h1⟩
    rw [← Hi.out]
    rfl
theorem has_any (oa : Option Addr) (c : Nat) (l : List (Int × Int)) (x y : Nat) (rows t : Int) (w : World) (hl : l.length ≤ 9223372036854775807) (hp : PAt w oa l) :
    Calls Try.prog 14 #[.agg #[.slice oa l.length c, .complex .f64 x y, .int .i64 rows], .int .i64 t] w fun e w' => e = .returned (.bool (hasP t l)) ∧ Gr w w' := by
  have C := fun g W h1 h2 => contains_any oa c l g t W hl (hp.keep h1) h2
  go_enter Try.func14, Try.ntmps14
  go_wp2_with fail
  refine (C _ _ ?_ ?_).mono ?_
  · exact ((Gr.refl w).alloc _).alloc _
  · go_simp
  rintro e w1 ⟨rfl, h1⟩
  go_wp2
  go_ret
  exact ⟨rfl, (((Gr.refl w).alloc _).alloc _).trans h1⟩
end Go.Proofs.Ytemhfaknmagebaa
