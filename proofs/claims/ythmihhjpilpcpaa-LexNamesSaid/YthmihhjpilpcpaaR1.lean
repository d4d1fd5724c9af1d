/- the reference: letters, digits, white, skip. -/
import Derived.Test.YthmihhjpilpcpaaM1
namespace Go.Proofs.Ythmihhjpilpcpaa
open Go.RowKit
set_option linter.unusedVariables false
theorem rletter_any (c : UInt8) (w : World) :
    Calls Try.prog 27 #[.int .u8 (c.toNat : Int)] w fun e w' => e = .returned (.bool (Lx.letterB c)) ∧ w = w' := by
  go_enter Try.func27, Try.ntmps27
  go_wp2
  all_goals
    go_ret
    refine ⟨ret_bool ?_, rfl⟩
    rw [Bool.eq_iff_iff]
    simp [Lx.letterB]
    omega
theorem rdigit_any (c : UInt8) (w : World) :
    Calls Try.prog 29 #[.int .u8 (c.toNat : Int)] w fun e w' => e = .returned (.bool (Lx.digitB c)) ∧ w = w' := by
  go_enter Try.func29, Try.ntmps29
  go_wp2
  all_goals
    go_ret
    refine ⟨ret_bool ?_, rfl⟩
    rw [Bool.eq_iff_iff]
    simp [Lx.digitB]
    omega
theorem rwhite_any (c : UInt8) (w : World) :
    Calls Try.prog 38 #[.int .u8 (c.toNat : Int)] w fun e w' => e = .returned (.bool (Lx.whiteB c)) ∧ w = w' := by
  go_enter Try.func38, Try.ntmps38
  go_wp2
  all_goals
    go_ret
    refine ⟨ret_bool ?_, rfl⟩
    rw [Bool.eq_iff_iff]
    simp [Lx.whiteB]
    omega
def SkipPost (l : List UInt8) (k : Nat) (w : World) (e : Ending) (w' : World) : Prop :=
  ∃ k', e = .returned (.int .i64 (k' : Nat)) ∧ w = w' ∧ k ≤ k' ∧ k' ≤ l.length ∧ (k' = l.length ∨ Lx.blank1 (l.drop k') = 0) ∧ ∀ acc, Came l k acc → Came l k' acc
def Far (l : List UInt8) (k k' : Nat) : Prop := k ≤ k' ∧ ∀ acc, Came l k acc → Came l k' acc
theorem Far.refl (l : List UInt8) (k : Nat) : Far l k k := ⟨Nat.le_refl _, fun _ h => h⟩
theorem Far.more {l : List UInt8} {k k' : Nat} (h : Far l k k') (hk : k' < l.length) (n : Nat) (hb : Lx.blank1 (l.drop k') = n) (hn : 1 ≤ n) : Far l k (k' + n) :=
  ⟨by have := h.1; omega, fun acc hc => (h.2 acc hc).skip hk n hb hn⟩
set_option maxHeartbeats 1000000 in
set_option maxRecDepth 100000 in
theorem skip_any (s : ByteArray) (k : Nat) (w : World) (hs : s.size ≤ 4096) (hk : k ≤ s.size) : Calls Try.prog 26 #[.string s, .int .i64 (k : Int)] w (SkipPost s.data.toList k w) := by
  go_enter Try.func26, Try.ntmps26
  go_wp2_with fail
  go_loop [1] (fun i => ∃ j : Nat, i = .int .i64 j ∧ j ≤ s.size ∧ Hid (Far s.data.toList k j)) (fun i => s.size - (intOf i).toNat)
  case atStart => exact ⟨k, rfl, hk, Far.refl _ _⟩
  case round =>
    obtain ⟨j, rfl, hj, hfar⟩ := hrel
    by_cases hlt : j < s.size
    · have hl : j < s.data.toList.length := by simpa using hlt
      cases hw : Lx.whiteB s[j] with
      | true =>
        have hf' := hid (Far.more hfar.out hl 1 (by rw [drop_at s j hlt]; simp [Lx.blank1, hw]) (Nat.le_refl 1))
        go_wp2_with (go_at_call 38; refine (rwhite_any _ _).mono ?_; rintro e w' ⟨rfl, rfl⟩)
        go_round
        case rel => exact ⟨j + 1, by go_num, by omega, hf'⟩
        case measure => simp [intOf]; omega
      | false =>
        have t1' : ∀ b : Bool, (s[j].toNat == 45) = b → ((s[j].toNat : Int) == 45) = b := fun b h => by rw [← h]; exact ibeq _ 45
        have hdj := drop_at s j hlt
        cases hr : Lx.remarkB (s.data.toList.drop j) with
        | true =>
          have hlt2 : j + 1 < s.size := by
            rcases Nat.lt_or_ge (j + 1) s.size with h | h
            · exact h
            · rw [hdj, List.drop_eq_nil_of_le (by simpa using h)] at hr; cases hr
          have hdj2 := drop_at s (j + 1) hlt2
          have hb : Lx.blank1 (s.data.toList.drop j) = Lx.runL Lx.noLine (s.data.toList.drop j) := by rw [hdj] at hr ⊢; simp [Lx.blank1, hw, hr]
          rw [hdj, hdj2] at hr
          simp only [Lx.remarkB, Bool.and_eq_true] at hr
          have t1 := t1' true hr.1
          have t2 : ((s[j + 1].toNat : Int) == 45) = true := by rw [← hr.2]; exact ibeq _ 45
          have hc45 : s[j].toNat = 45 := by simpa using hr.1
          have hpos : 1 ≤ Lx.runL Lx.noLine (s.data.toList.drop j) := by rw [hdj]; exact runL_pos _ _ _ (by simp [Lx.noLine, hc45])
          have hf' := Far.more hfar.out hl _ hb hpos
          have Hf' := hid hf'
          clear hf' hfar hb hr hdj hdj2 t1' hc45
          have Hpos := hid hpos; clear hpos
          go_wp2_with (go_at_call 38; refine (rwhite_any _ _).mono ?_; rintro e w' ⟨rfl, rfl⟩)
          go_loop [1] (fun i => ∃ m : Nat, i = .int .i64 m ∧ m ≤ s.size ∧ j ≤ m ∧ Hid (Lx.runL Lx.noLine (s.data.toList.drop j) = (m - j) + Lx.runL Lx.noLine (s.data.toList.drop m))) (fun i => s.size - (intOf i).toNat)
          case atStart => exact ⟨j, rfl, by omega, Nat.le_refl _, by show _ = _; omega⟩
          case round =>
            obtain ⟨m, rfl, hm, hjm, hrun⟩ := hrel
            by_cases hmlt : m < s.size
            · have hra := runL_at Lx.noLine s m hmlt
              cases h10 : (s[m].toNat == 10) with
              | true =>
                have t3 : ((s[m].toNat : Int) != 10) = false := by rw [bne, show ((s[m].toNat : Int) == 10) = (s[m].toNat == 10) from ibeq _ 10, h10]; rfl
                have hmj : Lx.runL Lx.noLine (s.data.toList.drop j) = m - j := by
                  rw [hrun.out, hra, if_neg (by simp [Lx.noLine, h10])]; rfl
                rw [hmj] at Hf' Hpos
                have hjm' : j + (m - j) = m := by omega
                rw [hjm'] at Hf'
                have hp := Hpos.out
                clear hmj hjm' hra h10 hrun
                go_wp2
                go_round
                case rel => exact ⟨m, rfl, hm, Hf'⟩
                case measure => simp [intOf]; omega
              | false =>
                have t3 : ((s[m].toNat : Int) != 10) = true := by rw [bne, show ((s[m].toNat : Int) == 10) = (s[m].toNat == 10) from ibeq _ 10, h10]; rfl
                have hrun' := hid (show Lx.runL Lx.noLine (s.data.toList.drop j) = (m + 1 - j) + Lx.runL Lx.noLine (s.data.toList.drop (m + 1)) from by
                  rw [hrun.out, hra, if_pos (by simp [Lx.noLine, h10])]; omega)
                clear hra h10 hrun
                go_wp2
                go_round
                case rel => exact ⟨m + 1, by go_num, by omega, by omega, hrun'⟩
                case measure => simp [intOf]; omega
            · have hms : m = s.size := by omega
              have hmj : Lx.runL Lx.noLine (s.data.toList.drop j) = m - j := by
                rw [hrun.out, List.drop_eq_nil_of_le (by simp; omega)]; rfl
              rw [hmj] at Hf' Hpos
              have hjm' : j + (m - j) = m := by omega
              rw [hjm'] at Hf'
              have hp := Hpos.out
              clear hmj hjm' hrun
              subst hms
              go_wp2
              go_round
              case rel => exact ⟨s.size, rfl, Nat.le_refl _, Hf'⟩
              case measure => simp [intOf]; omega
        | false =>
          have hb : Lx.blank1 (s.data.toList.drop j) = 0 := by rw [hdj] at hr ⊢; simp [Lx.blank1, hw, hr]
          have Hend := hid (show SkipPost s.data.toList k w (.returned (.int .i64 (j : Nat))) w from ⟨j, rfl, rfl, hfar.out.1, by simpa using hj, .inr hb, hfar.out.2⟩)
          clear hb hfar
          cases h45 : (s[j].toNat == 45) with
          | false =>
            have t1 := t1' false h45
            clear h45 t1' hr hdj
            go_wp2_with (go_at_call 38; refine (rwhite_any _ _).mono ?_; rintro e w' ⟨rfl, rfl⟩)
            go_ret
            exact Hend.out
          | true =>
            have t1 := t1' true h45
            by_cases hlt2 : j + 1 < s.size
            · have hdj2 := drop_at s (j + 1) hlt2
              rw [hdj, hdj2] at hr
              simp only [Lx.remarkB, h45, Bool.true_and] at hr
              have t2 : ((s[j + 1].toNat : Int) == 45) = false := by rw [← hr]; exact ibeq _ 45
              clear h45 t1' hr hdj hdj2
              go_wp2_with (go_at_call 38; refine (rwhite_any _ _).mono ?_; rintro e w' ⟨rfl, rfl⟩)
              go_ret
              exact Hend.out
            · clear h45 t1' hr hdj
              go_wp2_with (go_at_call 38; refine (rwhite_any _ _).mono ?_; rintro e w' ⟨rfl, rfl⟩)
              go_ret
              exact Hend.out
    · have hj' : j = s.size := by omega
      subst hj'
      go_wp2
      go_ret
      exact ⟨s.size, rfl, rfl, hk, by simp, .inl (by simp), hfar.out.2⟩
end Go.Proofs.Ythmihhjpilpcpaa
