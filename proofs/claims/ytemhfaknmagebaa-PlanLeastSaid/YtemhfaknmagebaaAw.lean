/- plan: awake, few. -/
import Derived.Test.YtemhfaknmagebaaBe
namespace Go.Proofs.Ytemhfaknmagebaa
open Go.RowKit
set_option linter.unusedSimpArgs false
set_option linter.unusedVariables false
attribute [local go_sem] run_store_complex
def tbA : Tb := ⟨10, 2, none, 0, []⟩
def bestA : St := ⟨[(0, -1)], 2, 10, 10⟩
theorem bestA_eq : bestR aheadR [tbA] [] = bestA := by kernel_rfl
theorem srow_new (W : World) (a b : Int) (hr : a ≤ 9223372036854775807) : SAt (W.alloc (.cells #[.int .i64 a, .int .i64 b, .slice none 0 0] 26)) (some ⟨W.heap.size, 0, none⟩) [⟨a, b, none, 0, []⟩] := by
  refine .inr ⟨W.heap.size, 0, rfl, fun k hk => ?_⟩
  have : k = 0 := by simp at hk; omega
  subst this
  refine ⟨?_, ?_, ?_, .inl rfl, by simp, hr⟩
  all_goals go_simp
theorem best_awake (W : World) : Calls Try.prog 5 #[.slice (some ⟨W.heap.size, 0, none⟩) 1 1, .slice none 0 0] (W.alloc (.cells #[.int .i64 10, .int .i64 2, .slice none 0 0] 26)) fun e w' => ∃ g o cb, e = .returned (.tuple #[.slice (some ⟨g, o, none⟩) 1 cb, .complex .f64 4611686018427387904 4621819117588971520, .bool true]) ∧ w'.cell? ⟨g, o, none⟩ = some (.int .i64 0) ∧ w'.cell? ⟨g, o + 1, none⟩ = some (.int .i64 (-1)) ∧ Gr (W.alloc (.cells #[.int .i64 10, .int .i64 2, .slice none 0 0] 26)) w' := by
  refine (best_any (some ⟨W.heap.size, 0, none⟩) none 1 0 [tbA] [] _ (by simp) (by simp) (by simp) (srow_new W 10 2 (by omega)) (.inl rfl)).mono ?_
  rintro e w' ⟨ob, cb, rfl, hp, hg⟩
  rw [bestA_eq] at hp ⊢
  rcases hp with h | ⟨b, off, rfl, hr⟩
  · cases h
  · obtain ⟨h0, h1⟩ := hr.2 0 (by simp [bestA])
    exact ⟨b, off, cb, rfl, by simpa [bestA] using h0, by simpa [bestA] using h1, hg⟩
theorem p_struct : Try.prog.underlying 39 = some (.struct (Try.prog.fieldsOf 39)) := by kernel_rfl
theorem p_plain : Try.prog.stoodInHeld 39 = false := by kernel_rfl
theorem p_guard : Try.prog.eqGuardType Try.prog.depth 39 = false := by kernel_rfl
theorem p_same (x0 x1 : Int) (W : World) : (Op.equalIn 10000 39 (.agg #[.int .i64 x0, .int .i64 x1]) (.agg #[.int .i64 x0, .int .i64 x1])).run Try.prog W = .ok true W := by
  rw [run_equalIn_agg W 9999 39 _ _ p_struct p_plain]
  go_simp
set_option maxHeartbeats 2000000 in
set_option maxRecDepth 100000 in
theorem awake_any (w : World) : Calls Try.prog 10 #[] w fun e w' => e = .returned (.bool true) ∧ Gr w w' := by
  have o1 : FloatKind.f64.format.order 4611686018427387904 4611686018427387904 = some .eq := by kernel_rfl
  have o2 : FloatKind.f64.format.order 4621819117588971520 4621819117588971520 = some .eq := by kernel_rfl
  have ps := fun W => p_same 0 (-1) W
  have pg := p_guard
  go_enter Try.func10, Try.ntmps10
  go_wp2_with fail
  refine (best_awake _).mono ?_
  rintro e w1 ⟨g, o, cb, rfl, h0, h1, hg⟩
  have hg1 : Gr w w1 := ((Gr.refl w).alloc _).trans hg
  have hl := lt_of_cell h0
  clear hg
  go_wp2
  go_ret
  exact ⟨rfl, hg1⟩
/-- may all plans be gone through here? -/
def fewSum : List Tb → Int
  | [] => 0
  | t :: r => min (t.ix.length : Int) 100 + fewSum r
def fewR (stats : List Tb) (preds : List Pr) : Bool := decide ((stats.length : Int) ≤ 5) && (decide ((preds.length : Int) ≤ 12) && decide (fewSum stats ≤ 16))
/-- the tables as they come in: any number of indexes -/
def SRowW (w : World) (b off : Nat) (l : List Tb) : Prop := ∀ k (h : k < l.length), w.cell? ⟨b, off + k * 3, none⟩ = some (.int .i64 l[k].rows) ∧ w.cell? ⟨b, off + k * 3 + 1, none⟩ = some (.int .i64 l[k].pages) ∧ w.cell? ⟨b, off + k * 3 + 2, none⟩ = some (.slice l[k].oi l[k].ix.length l[k].ci) ∧ PAt w l[k].oi l[k].ix ∧ l[k].ix.length ≤ 9223372036854775807 ∧ l[k].rows ≤ 9223372036854775807
def SAtW (w : World) (oa : Option Addr) (l : List Tb) : Prop := l = [] ∨ ∃ b off, oa = some ⟨b, off, none⟩ ∧ SRowW w b off l
theorem few_nonneg : ∀ l : List Tb, 0 ≤ fewSum l
  | [] => by simp [fewSum]
  | t :: r => by have := few_nonneg r; simp only [fewSum]; omega
theorem few_le : ∀ l : List Tb, fewSum l ≤ 100 * (l.length : Int)
  | [] => by simp [fewSum]
  | t :: r => by have := few_le r; simp only [fewSum, List.length_cons]; omega
theorem few_get : ∀ (l : List Tb) (k : Nat) (h : k < l.length), min (l[k].ix.length : Int) 100 ≤ fewSum l
  | [], k, h => by simp at h
  | t :: r, 0, _ => by have := few_nonneg r; simp only [fewSum, List.getElem_cons_zero]; omega
  | t :: r, k + 1, h => by have := few_get r k (by simpa using h); simp only [fewSum, List.getElem_cons_succ]; omega
theorem few_take (l : List Tb) (k : Nat) (h : k < l.length) : fewSum (l.take (k + 1)) = fewSum (l.take k) + min (l[k].ix.length : Int) 100 := by
  induction l generalizing k with
  | nil => simp at h
  | cons t r ih =>
    cases k with
    | zero => simp [fewSum]
    | succ k =>
      have := ih k (by simpa using h)
      simp only [List.take_succ_cons, fewSum, List.getElem_cons_succ]
      omega
theorem SAtW.few {w : World} {oa : Option Addr} {l : List Tb} {preds : List Pr} (h : SAtW w oa l) (hf : fewR l preds = true) : SAt w oa l := by
  simp only [fewR, Bool.and_eq_true, decide_eq_true_eq] at hf
  rcases h with h | ⟨b, off, e, h⟩
  · exact .inl h
  · refine .inr ⟨b, off, e, fun k hk => ?_⟩
    obtain ⟨h0, h1, h2, h3, h4, h5⟩ := h k hk
    have := few_get l k hk
    exact ⟨h0, h1, h2, h3, by omega, h5⟩
def FRel (w : World) (stats : List Tb) (s5 s6 : Value) (wr : World) : Prop := ∃ k : Nat, s6 = .int .i64 k ∧ s5 = .int .i64 (fewSum (stats.take k)) ∧ k ≤ stats.length ∧ Gr w wr
set_option maxHeartbeats 2000000 in
set_option maxRecDepth 100000 in
theorem few_any (os oq : Option Addr) (cs cq : Nat) (stats : List Tb) (preds : List Pr) (w : World) (hns : stats.length ≤ 1000000000000000) (hS : SAtW w os stats) :
    Calls Try.prog 11 #[.slice os stats.length cs, .slice oq preds.length cq] w fun e w' => e = .returned (.bool (fewR stats preds)) ∧ Gr w w' := by
  have hR : Hid (fewR stats preds = (decide ((stats.length : Int) ≤ 5) && (decide ((preds.length : Int) ≤ 12) && decide (fewSum stats ≤ 16)))) := hid rfl
  generalize fewR stats preds = R at *
  generalize preds.length = nq at *
  go_enter Try.func11, Try.ntmps11
  go_wp2_with fail
  go_loopw [5, 6] (fun s5 s6 wr => FRel w stats s5 s6 wr) (fun _ s6 _ => stats.length - (intOf s6).toNat)
  case atStart => exact ⟨0, rfl, rfl, Nat.zero_le _, Gr.refl _⟩
  case round =>
    obtain ⟨k, rfl, rfl, hk, hg⟩ := hrel
    by_cases hlt : k < stats.length
    · rcases hS with hS | ⟨b, off, rfl, hS⟩
      · rw [hS] at hlt; simp at hlt
      obtain ⟨c0, c1, c2, -, h4, -⟩ := hS k hlt
      have c2 := hg.keep c2
      have hb := lt_of_cell c2
      have ht := few_take stats k hlt
      have h5 := few_nonneg (stats.take k)
      have h6 := few_le (stats.take k)
      have h7 : (stats.take k).length = k := by simp; omega
      rw [h7] at h6
      have e2 : ∀ x : Int, (if 100 < x then 100 else x) = min x 100 := fun x => by omega
      have gk : decide ((stats.length : Int) ≤ (k : Int)) = false := by simp; omega
      generalize stats[k].ix.length = n at *
      generalize stats[k].oi = oi at *
      generalize stats[k].ci = ci at *
      generalize fewSum (stats.take k) = a at *
      have hT := hid ht
      have hw : wrap64 (a + min (n : Int) 100) = a + min (n : Int) 100 := by unfold wrap64; omega
      clear ht c0 c1 hS h7
      go_wp2
      exact ⟨⟨k + 1, by go_num, by rw [hT.out], by omega, hg⟩, by simp [intOf]; omega⟩
    · obtain rfl : k = stats.length := by omega
      rw [List.take_length]
      generalize fewSum stats = a at *
      generalize stats.length = ns at *
      clear hS
      have hR1 : Hid (ns ≤ 5 → nq ≤ 12 → R = decide (a ≤ 16)) := hid (fun h1 h2 => by
        rw [hR.out, show decide ((ns : Int) ≤ 5) = true by simp; omega, show decide ((nq : Int) ≤ 12) = true by simp; omega]; rfl)
      have hR2 : Hid (ns ≤ 5 → ¬ nq ≤ 12 → R = false) := hid (fun h1 h2 => by
        rw [hR.out, show decide ((nq : Int) ≤ 12) = false by simp; omega]; simp)
      have hR3 : Hid (¬ ns ≤ 5 → R = false) := hid (fun h1 => by
        rw [hR.out, show decide ((ns : Int) ≤ 5) = false by simp; omega]; rfl)
      by_cases h1 : ns ≤ 5
      · have g1 : decide ((ns : Int) ≤ 5) = true := by simp; omega
        by_cases h2 : nq ≤ 12
        · have g2 : decide ((nq : Int) ≤ 12) = true := by simp; omega
          have e := hid (hR1.out h1 h2)
          clear hR hR1 hR2 hR3 h1 h2
          go_wp2
          go_ret
          exact ⟨by rw [e.out]; rfl, hg⟩
        · have g2 : decide ((nq : Int) ≤ 12) = false := by simp; omega
          have e := hid (hR2.out h1 h2)
          clear hR hR1 hR2 hR3 h1 h2
          go_wp2
          go_ret
          exact ⟨by rw [e.out]; rfl, hg⟩
      · have g1 : decide ((ns : Int) ≤ 5) = false := by simp; omega
        have e := hid (hR3.out h1)
        clear hR hR1 hR2 hR3 h1
        go_wp2
        go_ret
        exact ⟨by rw [e.out]; rfl, hg⟩
end Go.Proofs.Ytemhfaknmagebaa
