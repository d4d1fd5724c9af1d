/- the reference's Name: what a name is. -/
import Derived.Test.YthmihhjpilpcpaaN5
namespace Go.Proofs.Ythmihhjpilpcpaa
open Go.RowKit
set_option linter.unusedVariables false
theorem dle (a b : Nat) : decide ((a : Int) ≤ (b : Int)) = decide (a ≤ b) := by rw [Bool.eq_iff_iff]; simp
theorem nameB_all (l : List UInt8) (h : l.all okB = false) : nameB l = false := by
  cases l with
  | nil => rfl
  | cons c r => unfold nameB; dsimp only; rw [h]; simp
theorem nameB_cons (c : UInt8) (r : List UInt8) (h : (c :: r).all okB = true) : nameB (c :: r) = (decide ((c :: r).length ≤ 32) && !Lx.digitB c && !keptB (c :: r)) := by
  unfold nameB; dsimp only; rw [h]; simp
set_option maxHeartbeats 1000000 in
set_option maxRecDepth 100000 in
theorem rname_any (s : ByteArray) (w : World) (hs : s.size ≤ maxLen) :
    Calls Try.prog 15 #[.string s] w fun e w' => e = .returned (.bool (nameB s.data.toList)) ∧ Below w.heap.size w w' := by
  unfold maxLen at hs
  go_enter Try.func15, Try.ntmps15
  go_upto_region 3 with (fail)
  go_loopw [3] (fun i wr => ∃ k : Nat, i = .int .i64 k ∧ k ≤ s.size ∧ wr = w ∧ Hid (s.data.toList.all okB = (s.data.toList.drop k).all okB)) (fun i _ => s.size - (intOf i).toNat)
  case atStart => exact ⟨0, rfl, Nat.zero_le _, rfl, rfl⟩
  case round =>
    obtain ⟨k, rfl, hk, rfl, H⟩ := hrel
    by_cases hlt : k < s.size
    · have hd := List.drop_eq_getElem_cons (show k < s.data.toList.length by simpa using hlt)
      obtain ⟨c, hc⟩ : ∃ c, s[k] = c := ⟨_, rfl⟩
      have hd2 : s.data.toList.drop k = c :: s.data.toList.drop (k + 1) := by rw [hd, ← hc]; rfl
      rw [hd2] at H
      clear hd hd2
      have Hc := H.out
      rw [List.all_cons] at Hc
      have hok : okB c = (Lx.digitB c || (Lx.letterB c && !(decide (65 ≤ c.toNat) && decide (c.toNat ≤ 90)))) := rfl
      rw [hok] at Hc
      have HC := hid Hc
      clear Hc hok H
      cases hdg : Lx.digitB c with
      | true =>
        have hn : Hid (s.data.toList.all okB = (s.data.toList.drop (k + 1)).all okB) := by refine hid ?_; rw [HC.out, hdg]; simp
        clear HC
        go_wp2_with fail
        refine (rdigit_any c _).mono ?_
        rintro e w' ⟨rfl, rfl⟩
        go_wp2
        go_roundw
        case rel => exact ⟨k + 1, by go_num, by omega, by first | rfl | trivial, hn⟩
        case measure => simp [intOf]; omega
      | false =>
        go_wp2_with fail
        refine (rdigit_any c _).mono ?_
        rintro e w' ⟨rfl, rfl⟩
        go_wp2_with fail
        refine (rletter_any c _).mono ?_
        rintro e w' ⟨rfl, rfl⟩
        cases hl : Lx.letterB c with
        | false =>
          have hv : Hid (nameB s.data.toList = false) := nameB_all _ (by rw [HC.out, hdg, hl]; simp)
          clear HC
          go_wp2
          go_ret
          exact ⟨by rw [hv.out]; rfl, Below.refl _ _⟩
        | true =>
          cases h65 : decide (65 ≤ c.toNat) with
          | false =>
            have hn : Hid (s.data.toList.all okB = (s.data.toList.drop (k + 1)).all okB) := by refine hid ?_; rw [HC.out, hdg, hl, h65]; simp
            have t65 : decide ((65 : Int) ≤ (c.toNat : Int)) = false := (dle 65 c.toNat).trans h65
            clear HC
            go_wp2
            go_roundw
            case rel => exact ⟨k + 1, by go_num, by omega, by first | rfl | trivial, hn⟩
            case measure => simp [intOf]; omega
          | true =>
            have t65 : decide ((65 : Int) ≤ (c.toNat : Int)) = true := (dle 65 c.toNat).trans h65
            cases h90 : decide (c.toNat ≤ 90) with
            | false =>
              have hn : Hid (s.data.toList.all okB = (s.data.toList.drop (k + 1)).all okB) := by refine hid ?_; rw [HC.out, hdg, hl, h65, h90]; simp
              have t90 : decide ((c.toNat : Int) ≤ (90 : Int)) = false := (dle c.toNat 90).trans h90
              clear HC
              go_wp2
              go_roundw
              case rel => exact ⟨k + 1, by go_num, by omega, by first | rfl | trivial, hn⟩
              case measure => simp [intOf]; omega
            | true =>
              have hv : Hid (nameB s.data.toList = false) := nameB_all _ (by rw [HC.out, hdg, hl, h65, h90]; simp)
              have t90 : decide ((c.toNat : Int) ≤ (90 : Int)) = true := (dle c.toNat 90).trans h90
              clear HC
              go_wp2
              go_ret
              exact ⟨by rw [hv.out]; rfl, Below.refl _ _⟩
    · have e : s.size = k := by omega
      have hall : Hid (s.data.toList.all okB = true) := by
        have := H.out
        rw [List.drop_eq_nil_of_le (by simp; omega)] at this
        refine hid ?_; rw [this]; rfl
      clear H hlt hk
      subst e
      by_cases h0 : s.size = 0
      · have t0 : decide ((0 : Int) < (s.size : Int)) = false := by rw [decide_eq_false_iff_not]; omega
        have hv : Hid (nameB s.data.toList = false) := by
          have : s.data.toList = [] := List.eq_nil_of_length_eq_zero (by simpa using h0)
          refine hid ?_; rw [this]; rfl
        go_wp2
        go_ret
        exact ⟨by rw [hv.out]; rfl, Below.refl _ _⟩
      · have t0 : decide ((0 : Int) < (s.size : Int)) = true := by rw [decide_eq_true_eq]; omega
        have hpos : 0 < s.size := by omega
        obtain ⟨c, hc⟩ : ∃ c, s[0] = c := ⟨_, rfl⟩
        have hv : Hid (nameB s.data.toList = (decide (s.size ≤ 32) && !Lx.digitB c && !keptB s.data.toList)) := by
          have hd := List.drop_eq_getElem_cons (show 0 < s.data.toList.length by simpa using hpos)
          have hd2 : s.data.toList = c :: s.data.toList.drop 1 := by rw [← hc]; exact hd
          have hl : s.data.toList.length = s.size := by simp
          have := hall.out
          rw [hd2] at this hl
          have h2 := nameB_cons _ _ this
          rw [hl, ← hd2] at h2
          exact h2
        clear hall
        cases h32 : decide (s.size ≤ 32) with
        | false =>
          have t32 : decide ((s.size : Int) ≤ 32) = false := (dle s.size 32).trans h32
          rw [h32] at hv
          go_wp2
          go_ret
          exact ⟨by rw [hv.out]; rfl, Below.refl _ _⟩
        | true =>
          have t32 : decide ((s.size : Int) ≤ 32) = true := by simp at h32 ⊢; omega
          rw [h32] at hv
          go_wp2_with fail
          refine (rdigit_any c _).mono ?_
          rintro e w' ⟨rfl, rfl⟩
          cases hdg : Lx.digitB c with
          | true =>
            rw [hdg] at hv
            go_wp2
            go_ret
            exact ⟨by rw [hv.out]; rfl, Below.refl _ _⟩
          | false =>
            rw [hdg] at hv
            go_wp2_with fail
            refine (rreserved_any s _).mono ?_
            rintro e w2 ⟨rfl, hb2⟩
            cases hk : keptB s.data.toList with
            | true =>
              rw [hk] at hv
              go_wp2
              go_ret
              exact ⟨by rw [hv.out]; rfl, hb2⟩
            | false =>
              rw [hk] at hv
              go_wp2
              go_ret
              exact ⟨by rw [hv.out]; rfl, hb2⟩
end Go.Proofs.Ythmihhjpilpcpaa
