/- row: rows compared, rows alike. -/
import Derived.Test.YtacbhkmkknicoaaDoorC1
namespace Go.Proofs.YtacbhkmkknicoaaDoor
open Go.RowKit
set_option linter.unusedSimpArgs false
set_option linter.unusedVariables false
attribute [local go_sem] Rg.leads_value Rg.leads_skip Rg.leads_enter Rg.brings_value Rg.brings_skip Rg.brings_enter Rg.bringsG_value Rg.bringsG_enter
theorem cmpR_nil (m : List V) : cmpR [] m = if m.length = 0 then 0 else -1 := by cases m <;> simp [cmpR]
theorem cmpR_end (a : V) (r : List V) : cmpR (a :: r) [] = 1 := rfl
def CrRel (w : World) (l m : List V) (R : Int) (s13 : Value) (wr : World) : Prop := ∃ k : Nat, s13 = .int .i64 (k : Int) ∧ k ≤ l.length ∧ k ≤ m.length ∧ cmpR (l.drop k) (m.drop k) = R ∧ Gr w wr
set_option maxHeartbeats 4000000 in
set_option maxRecDepth 100000 in
theorem cmpF_any (oa : Option Addr) (c : Nat) (l : List V) (ob : Option Addr) (d : Nat) (m : List V) (w : World) (hl : l.length ≤ 9223372036854775807) (hm : m.length ≤ 9223372036854775807) (hp : VAt w oa l) (hq : VAt w ob m) :
    Calls Tryd.prog 51 #[.slice oa l.length c, .slice ob m.length d, .func (.func 52) #[] #[]] w fun e w' => e = .returned (.int .i64 (cmpR l m)) ∧ Gr w w' := by
  obtain ⟨R, hR⟩ : ∃ R, cmpR l m = R := ⟨_, rfl⟩
  rw [hR]
  have S0 : Hid (CrRel w l m R (.int .i64 0) w) := hid ⟨0, rfl, Nat.zero_le _, Nat.zero_le _, hR, Gr.refl _⟩
  have HP := hid hp
  have HQ := hid hq
  clear hp hq hR
  go_enter Tryd.func51, Tryd.ntmps51
  go_wp2_with fail
  go_loopw [13] (fun s13 wr => CrRel w l m R s13 wr) (fun s13 _ => l.length - (intOf s13).toNat)
  case atStart => exact S0.out
  case round =>
    clear S0
    obtain ⟨k, rfl, hk, hkm, hR, hg⟩ := hrel
    have HR := hid hR
    clear hR
    by_cases hlt : k < l.length
    · have hdl := List.drop_eq_getElem_cons hlt
      have HR1 := HR.out
      rw [hdl] at HR1
      obtain ⟨b, off, rfl, c0, c1, c2, c3⟩ := v_get (HP.out.keep hg) k hlt
      have hbb := lt_of_cell c0
      have g1 : decide ((l.length : Int) ≤ (k : Int)) = false := by rw [decide_eq_false_iff_not]; omega
      have g2 : (k : Int) < (l.length : Int) := by omega
      have g3 : (0 : Int) ≤ (k : Int) := by omega
      by_cases hlm : k < m.length
      · have hdm := List.drop_eq_getElem_cons hlm
        rw [hdm] at HR1
        unfold cmpR at HR1
        obtain ⟨b', off', rfl, d0, d1, d2, d3⟩ := v_get (HQ.out.keep hg) k hlm
        have hbd := lt_of_cell d0
        have g4 : decide ((m.length : Int) ≤ (k : Int)) = false := by rw [decide_eq_false_iff_not]; omega
        have g5 : (k : Int) < (m.length : Int) := by omega
        clear hdl hdm
        have CV := fun W => cmpV_any l[k] m[k] W
        generalize l[k] = x at *
        generalize m[k] = y at *
        unfold V.val at CV
        generalize cmpV x y = r at *
        have HCV := hid CV
        have H1 := hid HR1
        clear CV HR1 HR
        by_cases hr : r = 0
        · have FI : Hid (∀ W, Gr wr W → CrRel w l m R (.int .i64 ((k : Int) + 1)) W) := hid (fun W hW => ⟨k + 1, by go_num, by omega, by omega, by have := H1.out; rw [if_pos hr] at this; exact this, hg.trans hW⟩)
          subst hr
          clear H1
          go_wp2_with fail
          refine (HCV.out _).mono ?_
          rintro e w1 ⟨rfl, hg1⟩
          have FJ := hid (FI.out w1 (Gr.trans (((Gr.refl _).alloc _).alloc _) hg1))
          clear FI hg1 HCV
          go_wp2
          exact ⟨FJ.out, by simp [intOf]; omega⟩
        · have q1 : (r != 0) = true := by simpa using hr
          have e2 : r = R := by have := H1.out; rwa [if_neg hr] at this
          rw [e2] at q1 HCV
          clear H1 hr e2
          go_wp2_with fail
          refine (HCV.out _).mono ?_
          rintro e w1 ⟨rfl, hg1⟩
          have HG := hid (hg.trans (Gr.trans (((Gr.refl _).alloc _).alloc _) hg1))
          clear hg1 HCV
          go_wp2
          go_ret
          exact ⟨rfl, HG.out⟩
      · have hem : k = m.length := by omega
        have hdm : m.drop k = [] := List.drop_eq_nil_of_le (by omega)
        rw [hdm, cmpR_end] at HR1
        have g4 : decide ((m.length : Int) ≤ (k : Int)) = true := by rw [decide_eq_true_iff]; omega
        have g5 : decide (m.length ≤ k) = true := by rw [decide_eq_true_iff]; omega
        subst HR1
        have HG := hid (hg.trans ((Gr.refl _).alloc (.cells #[.int .i64 l[k].t, .int .i64 l[k].n, .string l[k].s, .bool l[k].b] 32)))
        clear hdl hdm hem HR hlm hkm
        generalize l[k] = x at *
        go_wp2
        go_ret
        exact ⟨rfl, HG.out⟩
    · obtain rfl : k = l.length := by omega
      have g1 : decide ((l.length : Int) ≤ (l.length : Int)) = true := by rw [decide_eq_true_iff]; omega
      have HR1 := HR.out
      rw [List.drop_length, cmpR_nil, List.length_drop] at HR1
      by_cases hlm : l.length < m.length
      · have g4 : decide ((l.length : Int) < (m.length : Int)) = true := by rw [decide_eq_true_iff]; omega
        have g5 : decide (l.length < m.length) = true := by simpa using hlm
        rw [if_neg (by omega)] at HR1
        subst HR1
        clear HR hlm
        go_wp2
        go_ret
        exact ⟨rfl, hg⟩
      · have g4 : decide ((l.length : Int) < (m.length : Int)) = false := by rw [decide_eq_false_iff_not]; omega
        have g5 : decide (l.length < m.length) = false := by simpa using hlm
        rw [if_pos (by omega)] at HR1
        subst HR1
        clear HR hlm
        go_wp2
        go_ret
        exact ⟨rfl, hg⟩
/-- row.Compare -/
theorem cmpR_any (oa : Option Addr) (c : Nat) (l : List V) (ob : Option Addr) (d : Nat) (m : List V) (w : World) (hl : l.length ≤ 9223372036854775807) (hm : m.length ≤ 9223372036854775807) (hp : VAt w oa l) (hq : VAt w ob m) :
    Calls Tryd.prog 21 #[.slice oa l.length c, .slice ob m.length d] w fun e w' => e = .returned (.int .i64 (cmpR l m)) ∧ Gr w w' := by
  have C := hid (cmpF_any oa c l ob d m w hl hm hp hq)
  generalize cmpR l m = R at *
  clear hp hq
  go_enter Tryd.func21, Tryd.ntmps21
  go_wp2_with fail
  refine C.out.mono ?_
  rintro e w1 ⟨rfl, hg1⟩
  go_wp2
  go_ret
  exact ⟨rfl, hg1⟩
end Go.Proofs.YtacbhkmkknicoaaDoor
