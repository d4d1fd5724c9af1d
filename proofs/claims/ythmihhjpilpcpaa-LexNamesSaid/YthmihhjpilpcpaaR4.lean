/- the reference: number. -/
import Derived.Test.YthmihhjpilpcpaaR3
namespace Go.Proofs.Ythmihhjpilpcpaa
open Go.RowKit
set_option linter.unusedVariables false
theorem valOf_step (s : ByteArray) (k j : Nat) (hk : k ≤ j) (hj : j < s.size) : Lx.valOf 0 ((s.data.toList.drop k).take (j + 1 - k)) = 10 * Lx.valOf 0 ((s.data.toList.drop k).take (j - k)) + (s[j].toNat - 48) := by
  have hl : j - k < (s.data.toList.drop k).length := by simp; omega
  rw [show j + 1 - k = (j - k) + 1 from by omega, List.take_succ_eq_append_getElem hl, dropget s k j hk hj hl, valOf_snoc]
theorem valOf_18 (s : ByteArray) (k j : Nat) (hkj : k ≤ j) (h18 : j - k ≤ 18) (hrun : j - k ≤ Lx.runL Lx.digitB (s.data.toList.drop k)) : Lx.valOf 0 ((s.data.toList.drop k).take (j - k)) ≤ 999999999999999999 := by
  have h1 := valOf_lt ((s.data.toList.drop k).take (j - k)) (fun c hc => runL_take Lx.digitB (s.data.toList.drop k) c (by
    rw [← Nat.min_eq_left hrun, ← List.take_take] at hc
    exact List.mem_of_mem_take hc))
  have h2 : ((s.data.toList.drop k).take (j - k)).length ≤ 18 := by simp; omega
  have h3 : 10 ^ ((s.data.toList.drop k).take (j - k)).length ≤ 10 ^ 18 := Nat.pow_le_pow_right (by omega) h2
  have h4 : (10 : Nat) ^ 18 = 1000000000000000000 := by decide
  omega
theorem u64_wrap_in (x : Int) : 0 ≤ IntKind.u64.wrap x ∧ IntKind.u64.wrap x ≤ 18446744073709551615 := by
  simp [IntKind.wrap, IntKind.bits, IntKind.signed]; omega
def NRel (s : ByteArray) (k j : Nat) (x : Int) : Prop :=
  Lx.runL Lx.digitB (s.data.toList.drop k) = (j - k) + Lx.runL Lx.digitB (s.data.toList.drop j) ∧ (j - k ≤ 19 → x = (Lx.valOf 0 ((s.data.toList.drop k).take (j - k)) : Nat))
theorem NRel.val {s : ByteArray} {k j : Nat} {x : Int} (h : NRel s k j x) (hkj : k ≤ j) (h18 : j - k ≤ 18) : 0 ≤ x ∧ x ≤ 999999999999999999 := by
  have := valOf_18 s k j hkj h18 (by have := h.1; omega)
  rw [h.2 (by omega)]; omega
theorem NRel.step {s : ByteArray} {k j : Nat} {x x' : Int} (h : NRel s k j x) (hkj : k ≤ j) (hj : j < s.size) (hd : Lx.digitB s[j] = true) (hx : j - k ≤ 18 → x' = 10 * x + ((s[j].toNat : Int) - 48)) : NRel s k (j + 1) x' := by
  refine ⟨?_, fun h19 => ?_⟩
  · rw [h.1, runL_at Lx.digitB s j hj, if_pos hd]; omega
  · have h48 : 48 ≤ s[j].toNat := by simp [Lx.digitB] at hd; omega
    rw [hx (by omega), h.2 (by omega), valOf_step s k j hkj hj]; omega
set_option maxHeartbeats 4000000 in
set_option maxRecDepth 100000 in
theorem rnumber_any (s : ByteArray) (k : Nat) (w : World) (hs : s.size ≤ 4096) (hk : k ≤ s.size) :
    Calls Try.prog 30 #[.string s, .int .i64 (k : Int)] w (RefPost (Lx.numberL (s.data.toList.drop k)) k w) := by
  generalize hr : Lx.numberL (s.data.toList.drop k) = r
  have Hr := hid hr; clear hr
  go_enter Try.func30, Try.ntmps30
  go_wp2_with fail
  go_loop [7, 8] (fun i v => ∃ (j : Nat) (x : Int), i = .int .i64 j ∧ v = .int .u64 x ∧ k ≤ j ∧ j ≤ s.size ∧ j ≤ k + 20 ∧ 0 ≤ x ∧ x ≤ 18446744073709551615 ∧ Hid (NRel s k j x)) (fun i _ => s.size - (intOf i).toNat)
  case atStart => exact ⟨k, 0, rfl, rfl, Nat.le_refl _, hk, by omega, by omega, by omega, ⟨by simp, fun _ => by simp [Lx.valOf]⟩⟩
  case round =>
    obtain ⟨j, x, rfl, rfl, hkj, hj, hj20, hx0, hx1, hN⟩ := hrel
    by_cases hlt : j < s.size
    · cases hdg : Lx.digitB s[j] with
      | true =>
        have h48 : (48 : Int) ≤ (s[j].toNat : Int) ∧ (s[j].toNat : Int) ≤ 57 := by simp [Lx.digitB] at hdg; omega
        obtain ⟨h48, h57⟩ := h48
        by_cases h20 : j < k + 20
        · by_cases h18 : j - k ≤ 18
          · have hv := hN.out.val hkj h18
            have hstep := hid (hN.out.step (x' := 10 * x + ((s[j].toNat : Int) - 48)) hkj hlt hdg (fun _ => rfl))
            obtain ⟨hv0, hv1⟩ := hv
            clear hN hx1
            go_wp2_with (go_at_call 29; refine (rdigit_any _ _).mono ?_; rintro e w' ⟨rfl, rfl⟩)
            go_round
            case rel => exact ⟨j + 1, _, by go_num, rfl, by omega, by omega, by omega, by omega, by omega, hstep⟩
            case measure => simp [intOf]; omega
          · go_wp2_with (go_at_call 29; refine (rdigit_any _ _).mono ?_; rintro e w' ⟨rfl, rfl⟩)
            go_round
            case rel => exact ⟨j + 1, _, by go_num, rfl, by omega, by omega, by omega, (u64_wrap_in _).1, (u64_wrap_in _).2, hid (hN.out.step hkj hlt hdg (fun h => absurd h h18))⟩
            case measure => simp [intOf]; omega
        · have hnone : r = none := by
            rw [← Hr.out]
            unfold Lx.numberL
            rw [if_neg]
            rintro ⟨h, _⟩
            have := hN.out.1; omega
          subst hnone
          clear hN
          go_wp2_with (first | (go_at_call 29; refine (rdigit_any _ _).mono ?_; rintro e w' ⟨rfl, rfl⟩) | (go_at_call 27; refine (rletter_any _ _).mono ?_; rintro e w' ⟨rfl, rfl⟩))
          refine bodyPost_ret (v := .tuple #[.agg #[.int .i64 2, .string ⟨#[]⟩, .int .i64 (wrap64 x), .int .i64 (k : Int)], .int .i64 (j : Int), .bool false]) (by simp [results, Try.results30, go_sem]) rfl ⟨?_, ⟨_, _, _, _, _, rfl⟩⟩
          repeat (first | exact Below.refl _ _ | refine Below.alloc ?_ (Nat.le_refl _) _)
      | false =>
        have hnL : Lx.numberL (s.data.toList.drop k) = if (j - k ≤ 19 ∧ Lx.letterB s[j] = false ∧ Lx.valOf 0 ((s.data.toList.drop k).take (j - k)) < 9223372036854775808) then some (⟨2, [], Lx.valOf 0 ((s.data.toList.drop k).take (j - k))⟩, j - k) else none := by
          have hn : Lx.runL Lx.digitB (s.data.toList.drop k) = j - k := by rw [hN.out.1, runL_at Lx.digitB s j hlt, hdg]; rfl
          unfold Lx.numberL
          rw [hn]
          dsimp only
          rw [List.drop_drop, show k + (j - k) = j from by omega, startsL_at s j hlt]
        rw [Hr.out] at hnL
        have hx := hN.out.2
        clear hN
        by_cases h19 : j - k ≤ 19
        · have hx := hx h19
          rw [hx] at hx0 hx1 ⊢
          generalize Lx.valOf 0 ((s.data.toList.drop k).take (j - k)) = X at *
          have HnL := hid hnL; clear hnL hx
          have d19 : decide ((j : Int) - (k : Int) ≤ 19) = true := by simp; omega
          by_cases h63 : X < 9223372036854775808
          · have d63 : decide ((X : Int) < 9223372036854775808) = true := by simp; omega
            have hx63 : (X : Int) ≤ 9223372036854775807 := by omega
            have H63 := hid h63; clear h63 hx1
            have hjne : ((j : Int) == (s.size : Int)) = false := by rw [beq_eq_false_iff_ne]; omega
            cases hle : Lx.letterB s[j] with
            | true =>
              have hnone : r = none := by rw [HnL.out, if_neg (by rintro ⟨_, h, _⟩; rw [hle] at h; cases h)]
              subst hnone
              clear HnL Hr
              go_wp2_with (first | (go_at_call 29; refine (rdigit_any _ _).mono ?_; rintro e w' ⟨rfl, rfl⟩) | (go_at_call 27; refine (rletter_any _ _).mono ?_; rintro e w' ⟨rfl, rfl⟩))
              refine bodyPost_ret (v := .tuple #[.agg #[.int .i64 2, .string ⟨#[]⟩, .int .i64 (X : Int), .int .i64 (k : Int)], .int .i64 (j : Int), .bool false]) (by simp [results, Try.results30, go_sem]) rfl ⟨?_, ⟨_, _, _, _, _, rfl⟩⟩
              repeat (first | exact Below.refl _ _ | refine Below.alloc ?_ (Nat.le_refl _) _)
            | false =>
              have hsome : r = some (⟨2, [], X⟩, j - k) := by rw [HnL.out, if_pos ⟨h19, hle, H63.out⟩]
              subst hsome
              clear HnL Hr
              go_wp2_with (first | (go_at_call 29; refine (rdigit_any _ _).mono ?_; rintro e w' ⟨rfl, rfl⟩) | (go_at_call 27; refine (rletter_any _ _).mono ?_; rintro e w' ⟨rfl, rfl⟩))
              refine bodyPost_ret (v := .tuple #[.agg #[.int .i64 2, .string ⟨#[]⟩, .int .i64 (X : Int), .int .i64 (k : Int)], .int .i64 (j : Int), .bool true]) (by simp [results, Try.results30, go_sem]) rfl ⟨?_, ?_⟩
              · repeat (first | exact Below.refl _ _ | refine Below.alloc ?_ (Nat.le_refl _) _)
              · show Ending.returned _ = Ending.returned (.tuple #[.agg (tkCells ⟨2, [], X⟩ k), .int .i64 ((k + (j - k) : Nat) : Int), .bool true])
                rw [show k + (j - k) = j from by omega]; rfl
          · have d63 : decide ((X : Int) < 9223372036854775808) = false := by simp; omega
            have hnone : r = none := by rw [HnL.out, if_neg (fun h => h63 h.2.2)]
            subst hnone
            clear HnL Hr
            go_wp2_with (first | (go_at_call 29; refine (rdigit_any _ _).mono ?_; rintro e w' ⟨rfl, rfl⟩) | (go_at_call 27; refine (rletter_any _ _).mono ?_; rintro e w' ⟨rfl, rfl⟩))
            refine bodyPost_ret (v := .tuple #[.agg #[.int .i64 2, .string ⟨#[]⟩, .int .i64 (wrap64 X), .int .i64 (k : Int)], .int .i64 (j : Int), .bool false]) (by simp [results, Try.results30, go_sem]) rfl ⟨?_, ⟨_, _, _, _, _, rfl⟩⟩
            repeat (first | exact Below.refl _ _ | refine Below.alloc ?_ (Nat.le_refl _) _)
        · have hnone : r = none := by rw [hnL, if_neg (fun h => h19 h.1)]
          have d19 : decide ((j : Int) - (k : Int) ≤ 19) = false := by simp; omega
          subst hnone
          clear hnL hx Hr
          go_wp2_with (first | (go_at_call 29; refine (rdigit_any _ _).mono ?_; rintro e w' ⟨rfl, rfl⟩) | (go_at_call 27; refine (rletter_any _ _).mono ?_; rintro e w' ⟨rfl, rfl⟩))
          refine bodyPost_ret (v := .tuple #[.agg #[.int .i64 2, .string ⟨#[]⟩, .int .i64 (wrap64 x), .int .i64 (k : Int)], .int .i64 (j : Int), .bool false]) (by simp [results, Try.results30, go_sem]) rfl ⟨?_, ⟨_, _, _, _, _, rfl⟩⟩
          repeat (first | exact Below.refl _ _ | refine Below.alloc ?_ (Nat.le_refl _) _)
    · have hjs : s.size = j := by omega
      have hnL : Lx.numberL (s.data.toList.drop k) = if (j - k ≤ 19 ∧ Lx.valOf 0 ((s.data.toList.drop k).take (j - k)) < 9223372036854775808) then some (⟨2, [], Lx.valOf 0 ((s.data.toList.drop k).take (j - k))⟩, j - k) else none := by
        have hd : s.data.toList.drop j = [] := List.drop_eq_nil_of_le (by simp; omega)
        have hn : Lx.runL Lx.digitB (s.data.toList.drop k) = j - k := by rw [hN.out.1, hd]; rfl
        unfold Lx.numberL
        rw [hn]
        dsimp only
        rw [List.drop_drop, show k + (j - k) = j from by omega, hd]
        have e : Lx.startsLetter [] = false := rfl
        simp only [e, true_and]
      rw [Hr.out] at hnL
      have hx := hN.out.2
      clear hN
      subst hjs
      by_cases h19 : s.size - k ≤ 19
      · have hx := hx h19
        rw [hx] at hx0 hx1 ⊢
        generalize Lx.valOf 0 ((s.data.toList.drop k).take (s.size - k)) = X at *
        have HnL := hid hnL; clear hnL hx
        have d19 : decide ((s.size : Int) - (k : Int) ≤ 19) = true := by simp; omega
        by_cases h63 : X < 9223372036854775808
        · have d63 : decide ((X : Int) < 9223372036854775808) = true := by simp; omega
          have hsome : r = some (⟨2, [], X⟩, s.size - k) := by rw [HnL.out, if_pos ⟨h19, h63⟩]
          subst hsome
          clear HnL Hr
          go_wp2_with (first | (go_at_call 29; refine (rdigit_any _ _).mono ?_; rintro e w' ⟨rfl, rfl⟩) | (go_at_call 27; refine (rletter_any _ _).mono ?_; rintro e w' ⟨rfl, rfl⟩))
          refine bodyPost_ret (v := .tuple #[.agg #[.int .i64 2, .string ⟨#[]⟩, .int .i64 (X : Int), .int .i64 (k : Int)], .int .i64 (s.size : Int), .bool true]) (by simp [results, Try.results30, go_sem]) rfl ⟨?_, ?_⟩
          · repeat (first | exact Below.refl _ _ | refine Below.alloc ?_ (Nat.le_refl _) _)
          · show Ending.returned _ = Ending.returned (.tuple #[.agg (tkCells ⟨2, [], X⟩ k), .int .i64 ((k + (s.size - k) : Nat) : Int), .bool true])
            rw [show k + (s.size - k) = s.size from by omega]; rfl
        · have d63 : decide ((X : Int) < 9223372036854775808) = false := by simp; omega
          have hnone : r = none := by rw [HnL.out, if_neg (fun h => h63 h.2)]
          subst hnone
          clear HnL Hr
          go_wp2_with (first | (go_at_call 29; refine (rdigit_any _ _).mono ?_; rintro e w' ⟨rfl, rfl⟩) | (go_at_call 27; refine (rletter_any _ _).mono ?_; rintro e w' ⟨rfl, rfl⟩))
          refine bodyPost_ret (v := .tuple #[.agg #[.int .i64 2, .string ⟨#[]⟩, .int .i64 (wrap64 X), .int .i64 (k : Int)], .int .i64 (s.size : Int), .bool false]) (by simp [results, Try.results30, go_sem]) rfl ⟨?_, ⟨_, _, _, _, _, rfl⟩⟩
          repeat (first | exact Below.refl _ _ | refine Below.alloc ?_ (Nat.le_refl _) _)
      · have hnone : r = none := by rw [hnL, if_neg (fun h => h19 h.1)]
        have d19 : decide ((s.size : Int) - (k : Int) ≤ 19) = false := by simp; omega
        subst hnone
        clear hnL hx Hr
        go_wp2_with (first | (go_at_call 29; refine (rdigit_any _ _).mono ?_; rintro e w' ⟨rfl, rfl⟩) | (go_at_call 27; refine (rletter_any _ _).mono ?_; rintro e w' ⟨rfl, rfl⟩))
        refine bodyPost_ret (v := .tuple #[.agg #[.int .i64 2, .string ⟨#[]⟩, .int .i64 (wrap64 x), .int .i64 (k : Int)], .int .i64 (s.size : Int), .bool false]) (by simp [results, Try.results30, go_sem]) rfl ⟨?_, ⟨_, _, _, _, _, rfl⟩⟩
        repeat (first | exact Below.refl _ _ | refine Below.alloc ?_ (Nat.le_refl _) _)
end Go.Proofs.Ythmihhjpilpcpaa
