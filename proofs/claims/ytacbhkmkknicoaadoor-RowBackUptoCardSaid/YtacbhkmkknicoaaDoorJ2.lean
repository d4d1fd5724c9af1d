/- row: the reference's values one behind the other; a row's bytes. -/
import Derived.Test.YtacbhkmkknicoaaDoorE2
namespace Go.Proofs.YtacbhkmkknicoaaDoor
open Go.RowKit
set_option linter.unusedSimpArgs false
set_option linter.unusedVariables false
attribute [local go_sem] Rg.leads_value Rg.leads_skip Rg.leads_enter Rg.brings_value Rg.brings_skip Rg.brings_enter Rg.bringsG_value Rg.bringsG_enter
def JrRel (w : World) (l : List V) (s3 s4 : Value) (wr : World) : Prop := ∃ k : Nat, s4 = .int .i64 (k : Int) ∧ k ≤ l.length ∧ wr.ownsRow w.heap.size 5 1 s3 (joinV (l.take k)).length (cellsF bF (joinV (l.take k))) ∧ Gr w wr
set_option maxHeartbeats 4000000 in
set_option maxRecDepth 100000 in
theorem rjoin_any (oa : Option Addr) (c : Nat) (l : List V) (w : World) (hl : l.length ≤ 9223372036854775807) (hp : VAt w oa l) (hv : ∀ v ∈ l, VOk v) (hb : (joinV l).length ≤ 140737488355328) :
    Calls Tryd.prog 47 #[.slice oa l.length c] w (RetB (joinV l) w) := by
  have HP := hid hp
  have HV := hid hv
  obtain ⟨R, hR⟩ : ∃ R, joinV l = R := ⟨_, rfl⟩
  have hjl := fun k => join_le l k
  rw [hR] at hb hjl ⊢
  have HRe := hid hR
  clear hp hv hR
  go_enter Tryd.func47, Tryd.ntmps47
  have S0 : Hid (JrRel w l (.slice none 0 0) (.int .i64 0) w) := hid ⟨0, rfl, Nat.zero_le _, World.ownsRow_nil _ _ _ _, Gr.refl _⟩
  go_wp2_with fail
  go_loopw [3, 4] (fun s3 s4 wr => JrRel w l s3 s4 wr) (fun _ s4 _ => l.length - (intOf s4).toNat)
  case atStart => exact S0.out
  case round =>
    clear S0
    obtain ⟨k, rfl, hk, hrow, hg⟩ := hrel
    have HRW := hid hrow
    clear hrow
    by_cases hlt : k < l.length
    · obtain ⟨b, off, rfl, c0, c1, c2, c3⟩ := v_get (HP.out.keep hg) k hlt
      have hbb := lt_of_cell c0
      have hvk := HV.out _ (List.getElem_mem hlt)
      have HT := hid (join_take hlt)
      have hle := hjl (k + 1)
      rw [HT.out, List.length_append] at hle
      have hne := encV_ne l[k]
      generalize l[k] = v at *
      have EN := fun W => renc_any v W hvk.1 hvk.2
      unfold V.val at EN
      have HEN := hid EN
      have g1 : decide ((l.length : Int) ≤ (k : Int)) = false := by rw [decide_eq_false_iff_not]; omega
      have g2 : (k : Int) < (l.length : Int) := by omega
      have g3 : (0 : Int) ≤ (k : Int) := by omega
      obtain ⟨P, hP⟩ : ∃ P, joinV (l.take k) = P := ⟨_, rfl⟩
      rw [hP] at HRW HT hle
      obtain ⟨X, hX⟩ : ∃ X, encV v = X := ⟨_, rfl⟩
      rw [hX] at HT hle hne HEN
      clear hP hX hvk EN
      go_wp2_with fail
      refine (HEN.out _).mono ?_
      rintro e w1 ⟨ox, cx, rfl, hcx, hxat, hg1⟩
      obtain ⟨bx, offx, rfl, hbx, hxr⟩ := hxat.resolve_left hne
      have hxc := RowF.cells bE hxr
      have hG1 := hg.trans hg1
      have HR1 := hid (own_keep HRW.out hg1)
      have hwb := hG1.size
      obtain ⟨i0, hi0, hz0, hz1, hz2⟩ := info_parts b_info
      clear hg1 hxat HEN HRW hxr
      go_wp2_with (at_builtin; refine wpList_append_own _ rfl _ _ 30 rfl w.heap.size 5 i0 (.int .u8 0) 1 1 Tryd.underlying30 hi0 hz0 hz1 hz2 rfl (by decide) _ _ _ rfl HR1.out ⟨bx, offx, none⟩ X.length cx (cellsF bF X) rfl (bE.cells_len X) ?ma1 ?ma2 ?ma3 ?ma4 ?ma5 ?_)
      case ma1 => exact fun q u hu => hxc q u hu
      case ma2 => exact bE.cells_one _
      case ma3 => unfold maxLen; omega
      case ma4 => omega
      case ma5 => first | omega | (simp; omega)
      intro v1 w3 hown hg8 _
      have FI : Hid (JrRel w l v1 (.int .i64 ((k : Int) + 1)) w3) := hid ⟨k + 1, by go_num, by omega, by rw [HT.out, List.length_append, cellsF_append]; exact hown, Gz.up hG1 hg8 HR1.out⟩
      clear hown hg8 HR1 hG1 hxc HT
      go_wp2
      exact ⟨FI.out, by simp [intOf]; omega⟩
    · obtain rfl : k = l.length := by omega
      have g1 : decide ((l.length : Int) ≤ (l.length : Int)) = true := by rw [decide_eq_true_iff]; omega
      rw [List.take_length] at HRW
      obtain ⟨ox, cx, rfl, hxat, hx0⟩ := own_at0 bE HRW.out
      have hcap := own_cap HRW.out rfl
      have HX := hid hxat
      rw [HRe.out] at HX hcap
      rw [HRe.out]
      clear HRW HP HV hb hxat hjl
      go_wp2
      go_ret
      exact ⟨ox, cx, rfl, hcap, HX.out, hg⟩
/-- a row's bytes and the error -/
def RowE (l : List V) (w : World) (e : Ending) (w' : World) : Prop := ∃ oa n c, e = .returned (.tuple #[.slice oa n c, .int .i64 (if (joinV l).length ≤ 480 then 0 else 170)]) ∧ (n = if (joinV l).length ≤ 480 then (joinV l).length else 0) ∧ n ≤ c ∧ ((joinV l).length ≤ 480 → BAt w' oa (joinV l)) ∧ Gr w w'
set_option maxHeartbeats 4000000 in
set_option maxRecDepth 100000 in
theorem rowenc_any (oa : Option Addr) (c : Nat) (l : List V) (w : World) (hl : l.length ≤ 9223372036854775807) (hp : VAt w oa l) (hv : ∀ v ∈ l, VOk v) (hb : (joinV l).length ≤ 140737488355328) :
    Calls Tryd.prog 12 #[.slice oa l.length c] w (RowE l w) := by
  have HJ := hid (join_any oa c l w hl hp hv hb)
  clear hp hv
  obtain ⟨R, hR⟩ : ∃ R, joinV l = R := ⟨_, rfl⟩
  rw [hR] at HJ hb
  have HRe : Hid (RowE l w = fun e w' => ∃ oa n c, e = .returned (.tuple #[.slice oa n c, .int .i64 (if R.length ≤ 480 then 0 else 170)]) ∧ (n = if R.length ≤ 480 then R.length else 0) ∧ n ≤ c ∧ (R.length ≤ 480 → BAt w' oa R) ∧ Gr w w') := hid (by unfold RowE; rw [hR])
  obtain ⟨Q, hQ⟩ : ∃ Q, RowE l w = Q := ⟨_, rfl⟩
  rw [hQ] at HRe ⊢
  clear hQ hR
  go_enter Tryd.func12, Tryd.ntmps12
  go_wp2_with fail
  refine HJ.out.mono ?_
  rintro e w1 ⟨ox, cx, rfl, hcx, hxat, hg1⟩
  have HX := hid hxat
  clear HJ hxat
  by_cases h : R.length ≤ 480
  · have q1 : decide ((480 : Int) < (R.length : Int)) = false := by rw [decide_eq_false_iff_not]; omega
    go_wp2
    rw [HRe.out]
    exact ⟨ox, R.length, cx, by rw [if_pos h] <;> rfl, by rw [if_pos h] <;> rfl, hcx, fun _ => HX.out, hg1⟩
  · have q1 : decide ((480 : Int) < (R.length : Int)) = true := by rw [decide_eq_true_iff]; omega
    go_wp2
    rw [HRe.out]
    exact ⟨none, 0, 0, by rw [if_neg h] <;> rfl, by rw [if_neg h] <;> rfl, Nat.le_refl _, fun h2 => absurd h2 h, hg1⟩
set_option maxHeartbeats 4000000 in
set_option maxRecDepth 100000 in
theorem rrowenc_any (oa : Option Addr) (c : Nat) (l : List V) (w : World) (hl : l.length ≤ 9223372036854775807) (hp : VAt w oa l) (hv : ∀ v ∈ l, VOk v) (hb : (joinV l).length ≤ 140737488355328) :
    Calls Tryd.prog 30 #[.slice oa l.length c] w (RowE l w) := by
  have HJ := hid (rjoin_any oa c l w hl hp hv hb)
  clear hp hv
  obtain ⟨R, hR⟩ : ∃ R, joinV l = R := ⟨_, rfl⟩
  rw [hR] at HJ hb
  have HRe : Hid (RowE l w = fun e w' => ∃ oa n c, e = .returned (.tuple #[.slice oa n c, .int .i64 (if R.length ≤ 480 then 0 else 170)]) ∧ (n = if R.length ≤ 480 then R.length else 0) ∧ n ≤ c ∧ (R.length ≤ 480 → BAt w' oa R) ∧ Gr w w') := hid (by unfold RowE; rw [hR])
  obtain ⟨Q, hQ⟩ : ∃ Q, RowE l w = Q := ⟨_, rfl⟩
  rw [hQ] at HRe ⊢
  clear hQ hR
  go_enter Tryd.func30, Tryd.ntmps30
  go_wp2_with fail
  refine HJ.out.mono ?_
  rintro e w1 ⟨ox, cx, rfl, hcx, hxat, hg1⟩
  have HX := hid hxat
  clear HJ hxat
  by_cases h : R.length ≤ 480
  · have q1 : decide ((480 : Int) < (R.length : Int)) = false := by rw [decide_eq_false_iff_not]; omega
    go_wp2
    rw [HRe.out]
    exact ⟨ox, R.length, cx, by rw [if_pos h] <;> rfl, by rw [if_pos h] <;> rfl, hcx, fun _ => HX.out, hg1⟩
  · have q1 : decide ((480 : Int) < (R.length : Int)) = true := by rw [decide_eq_true_iff]; omega
    go_wp2
    rw [HRe.out]
    exact ⟨none, 0, 0, by rw [if_neg h] <;> rfl, by rw [if_neg h] <;> rfl, Nat.le_refl _, fun h2 => absurd h2 h, hg1⟩
end Go.Proofs.YtacbhkmkknicoaaDoor
