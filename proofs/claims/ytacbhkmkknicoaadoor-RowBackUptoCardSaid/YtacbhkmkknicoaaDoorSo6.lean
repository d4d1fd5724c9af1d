/- row: sorting rows (slices.SortStableFunc, up to 40). -/
import Derived.Test.YtacbhkmkknicoaaDoorSo5
namespace Go.Proofs.YtacbhkmkknicoaaDoor
open Go.RowKit
set_option linter.unusedSimpArgs false
set_option linter.unusedVariables false
attribute [local go_sem] Rg.leads_value Rg.leads_skip Rg.leads_enter Rg.brings_value Rg.brings_skip Rg.brings_enter Rg.bringsG_value Rg.bringsG_enter Rg.still_value Rg.still_skip Rg.bringsS_value Rg.bringsS_skip Rg.bringsS_enter rwV
set_option maxHeartbeats 8000000 in
set_option maxRecDepth 100000 in
theorem stable_any (base g cap : Nat) (d : List Rw) (w : World) (h : SD base g cap w d) (hd : d.length ≤ 40) :
    Calls Tryd.prog 63 #[.slice (some ⟨g, 0, none⟩) d.length cap, .int .i64 (d.length : Int), .func (.func 21) #[] #[]] w fun e w' => e = .returned (.tuple #[]) ∧ SD base g cap w' (stF d) ∧ Go1 g w w' := by
  have HS := hid h
  obtain ⟨T, hT⟩ : ∃ T, stF d = T := ⟨_, rfl⟩
  rw [hT]
  unfold stF at hT
  have I0 : ∀ (a b : Nat) (W : World) (d' : List Rw), SD base g cap W d' → d'.length = d.length → a ≤ d.length → b ≤ d.length → Calls Tryd.prog 74 #[.slice (some ⟨g, 0, none⟩) d.length cap, .int .i64 (a : Int), .int .i64 (b : Int), .func (.func 21) #[] #[]] W fun e w' => e = .returned (.tuple #[]) ∧ SD base g cap w' (insI a (b - 1 - a) d') ∧ Go1 g W w' := fun a b W d' h1 h2 h3 h4 => by
    have := ins_any base g cap a b d' W h1 (by omega) (by omega) (by omega)
    rw [h2] at this
    exact this
  have II := hid I0
  clear h I0
  obtain ⟨N, hN⟩ : ∃ N, d.length = N := ⟨_, rfl⟩
  rw [hN] at hT hd II ⊢
  have HN := hid hN
  clear hN
  by_cases h20 : N < 20
  · rw [if_pos (by omega)] at hT
    have HT := hid hT
    have q1 : decide ((20 : Int) ≤ (N : Int)) = false := by rw [decide_eq_false_iff_not]; omega
    have q2 : decide ((20 : Int) < (N : Int)) = false := by rw [decide_eq_false_iff_not]; omega
    have q3 : decide (20 ≤ N) = false := by rw [decide_eq_false_iff_not]; omega
    have q4 : decide (20 < N) = false := by rw [decide_eq_false_iff_not]; omega
    have C := hid (II.out 0 N w d HS.out HN.out (by omega) (by omega))
    clear hT II
    go_enter Tryd.func63, Tryd.ntmps63
    go_wp2_with fail
    refine wp_loop_rounds 1 ?_
    rw [rounds_succ]
    go_wp2_with fail
    refine C.out.mono ?_
    rintro e w1 ⟨rfl, hsd, hgo⟩
    have FI : Hid (SD base g cap w1 T ∧ Go1 g w w1) := hid ⟨by rw [← HT.out]; exact hsd, hgo⟩
    clear hsd hgo C HT HS
    go_wp2_with fail
    refine wp_loop_rounds 1 ?_
    rw [rounds_succ]
    go_wp2
    exact ⟨rfl, .tuple #[], by simp [results, Tryd.results63, go_sem], rfl, FI.out⟩
  · by_cases h21 : N = 20
    · rw [if_pos (by omega)] at hT
      have HT := hid hT
      have C := hid (II.out 0 20 w d HS.out HN.out (by omega) (by omega))
      have C2 := hid (fun W h => II.out 20 20 W (insI 0 19 d) h (by rw [insI_len]; exact HN.out) (by omega) (by omega))
      subst h21
      clear hT II h20
      go_enter Tryd.func63, Tryd.ntmps63
      go_wp2_with fail
      refine wp_loop_rounds 2 ?_
      rw [rounds_succ]
      go_wp2_with fail
      refine C.out.mono ?_
      rintro e w1 ⟨rfl, hsd, hgo⟩
      have C3 := hid (C2.out w1 hsd)
      have HG := hid hgo
      clear hsd hgo C C2 HS
      go_wp2_with fail
      rw [rounds_succ]
      go_wp2_with fail
      refine C3.out.mono ?_
      rintro e w2 ⟨rfl, hsd, hgo⟩
      have FI : Hid (SD base g cap w2 T ∧ Go1 g w w2) := hid ⟨by rw [← HT.out]; exact hsd, HG.out.trans hgo⟩
      clear hsd hgo C3 HG HT
      go_wp2_with fail
      refine wp_loop_rounds 1 ?_
      rw [rounds_succ]
      go_wp2
      exact ⟨rfl, .tuple #[], by simp [results, Tryd.results63, go_sem], rfl, FI.out⟩
    · rw [if_neg (by omega)] at hT
      have HT := hid hT
      clear hT
      have C := hid (II.out 0 20 w d HS.out HN.out (by omega) (by omega))
      by_cases h40 : N = 40
      · have C2 := hid (fun W h => II.out 20 40 W (insI 0 19 d) h (by rw [insI_len]; exact HN.out) (by omega) (by omega))
        have C3 := hid (fun W h => II.out 40 40 W (insI 20 19 (insI 0 19 d)) h (by rw [insI_len, insI_len]; exact HN.out) (by omega) (by omega))
        have C4 : Hid (∀ W, SD base g cap W (insI 20 19 (insI 0 19 d)) → Calls Tryd.prog 75 #[.slice (some ⟨g, 0, none⟩) N cap, .int .i64 ((0 : Nat) : Int), .int .i64 ((20 : Nat) : Int), .int .i64 ((40 : Nat) : Int), .func (.func 21) #[] #[]] W fun e w' => e = .returned (.tuple #[]) ∧ SD base g cap w' (symF 40 (insI 20 19 (insI 0 19 d)) 0 20 40) ∧ Go1 g W w') := hid (fun W h => by
          have hl : (insI 20 19 (insI 0 19 d)).length = N := by rw [insI_len, insI_len]; exact HN.out
          have := sym_any base g cap 40 0 20 40 _ W h (by omega) (by omega) (by omega) (by omega) (by omega)
          rw [hl] at this
          exact this)
        subst h40
        clear II h20 h21
        go_enter Tryd.func63, Tryd.ntmps63
        go_wp2_with fail
        refine wp_loop_rounds 3 ?_
        rw [rounds_succ]
        go_wp2_with fail
        refine C.out.mono ?_
        rintro e w1 ⟨rfl, hsd, hgo⟩
        have D2 := hid (C2.out w1 hsd)
        have HG := hid hgo
        clear hsd hgo C C2 HS
        go_wp2_with fail
        rw [rounds_succ]
        go_wp2_with fail
        refine D2.out.mono ?_
        rintro e w2 ⟨rfl, hsd, hgo⟩
        have D3 := hid (C3.out w2 hsd)
        have HG := hid (HG.out.trans hgo)
        clear hsd hgo D2 C3
        go_wp2_with fail
        rw [rounds_succ]
        go_wp2_with fail
        refine D3.out.mono ?_
        rintro e w3 ⟨rfl, hsd, hgo⟩
        have D4 := hid (C4.out w3 hsd)
        have HG := hid (HG.out.trans hgo)
        clear hsd hgo D3 C4
        go_wp2_with fail
        refine wp_loop_rounds 2 ?_
        rw [rounds_succ]
        go_wp2_with fail
        refine wp_loop_rounds 2 ?_
        rw [rounds_succ]
        go_wp2_with fail
        refine D4.out.mono ?_
        rintro e w4 ⟨rfl, hsd, hgo⟩
        have FI : Hid (SD base g cap w4 T ∧ Go1 g w w4) := hid ⟨by rw [← HT.out]; exact hsd, HG.out.trans hgo⟩
        clear hsd hgo D4 HG HT
        go_wp2_with fail
        rw [rounds_succ]
        go_wp2_with fail
        rw [rounds_succ]
        go_wp2
        exact ⟨rfl, .tuple #[], by simp [results, Tryd.results63, go_sem], rfl, FI.out⟩
      · have C2 := hid (fun W h => II.out 20 N W (insI 0 19 d) h (by rw [insI_len]; exact HN.out) (by omega) (by omega))
        have C4 : Hid (∀ W, SD base g cap W (insI 20 (N - 1 - 20) (insI 0 19 d)) → Calls Tryd.prog 75 #[.slice (some ⟨g, 0, none⟩) N cap, .int .i64 ((0 : Nat) : Int), .int .i64 ((20 : Nat) : Int), .int .i64 (N : Int), .func (.func 21) #[] #[]] W fun e w' => e = .returned (.tuple #[]) ∧ SD base g cap w' (symF N (insI 20 (N - 1 - 20) (insI 0 19 d)) 0 20 N) ∧ Go1 g W w') := hid (fun W h => by
          have hl : (insI 20 (N - 1 - 20) (insI 0 19 d)).length = N := by rw [insI_len, insI_len]; exact HN.out
          have := sym_any base g cap N 0 20 N _ W h (by omega) (by omega) (by omega) (by omega) (by omega)
          rw [hl] at this
          exact this)
        have q1 : decide ((20 : Int) ≤ (N : Int)) = true := by rw [decide_eq_true_iff]; omega
        have q2 : decide ((20 : Int) < (N : Int)) = true := by rw [decide_eq_true_iff]; omega
        have q3 : decide (20 ≤ N) = true := by rw [decide_eq_true_iff]; omega
        have q4 : decide (20 < N) = true := by rw [decide_eq_true_iff]; omega
        have q5 : decide ((40 : Int) ≤ (N : Int)) = false := by rw [decide_eq_false_iff_not]; omega
        have q6 : decide ((40 : Int) < (N : Int)) = false := by rw [decide_eq_false_iff_not]; omega
        have q7 : decide (40 ≤ N) = false := by rw [decide_eq_false_iff_not]; omega
        have q8 : decide (40 < N) = false := by rw [decide_eq_false_iff_not]; omega
        clear II h20 h21 h40
        go_enter Tryd.func63, Tryd.ntmps63
        go_wp2_with fail
        refine wp_loop_rounds 2 ?_
        rw [rounds_succ]
        go_wp2_with fail
        refine C.out.mono ?_
        rintro e w1 ⟨rfl, hsd, hgo⟩
        have D2 := hid (C2.out w1 hsd)
        have HG := hid hgo
        clear hsd hgo C C2 HS
        go_wp2_with fail
        rw [rounds_succ]
        go_wp2_with fail
        refine D2.out.mono ?_
        rintro e w2 ⟨rfl, hsd, hgo⟩
        have D4 := hid (C4.out w2 hsd)
        have HG := hid (HG.out.trans hgo)
        clear hsd hgo D2 C4
        go_wp2_with fail
        refine wp_loop_rounds 2 ?_
        rw [rounds_succ]
        go_wp2_with fail
        refine wp_loop_rounds 1 ?_
        rw [rounds_succ]
        go_wp2_with fail
        refine D4.out.mono ?_
        rintro e w4 ⟨rfl, hsd, hgo⟩
        have FI : Hid (SD base g cap w4 T ∧ Go1 g w w4) := hid ⟨by rw [← HT.out]; exact hsd, HG.out.trans hgo⟩
        clear hsd hgo D4 HG HT
        go_wp2_with fail
        rw [rounds_succ]
        go_wp2
        exact ⟨rfl, .tuple #[], by simp [results, Tryd.results63, go_sem], rfl, FI.out⟩
end Go.Proofs.YtacbhkmkknicoaaDoor
