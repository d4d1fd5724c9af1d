/- redo: Next. (By mkN1.py.) -/
import Derived.Test.YtmanokhadppeeaaAn
namespace Go.Proofs.Ytmanokhadppeeaa
open Go.RowKit
set_option linter.unusedSimpArgs false
set_option linter.unusedVariables false
attribute [local go_sem] Rg.leads_value Rg.leads_skip Rg.leads_enter Rg.brings_value Rg.brings_skip Rg.brings_enter Rg.bringsG_value Rg.bringsG_enter
def nextK (l : List Ln) (t : Int) : Nat → Int
  | 0 => 0
  | k + 1 => match l[k]? with
    | none => 0
    | some x => if x.txn = t then x.lsn else nextK l t k
def nextI (l : List Ln) (t : Int) : Int := nextK l t l.length
set_option maxHeartbeats 2000000 in
set_option maxRecDepth 100000 in
theorem next_any (oa : Option Addr) (c : Nat) (l : List Ln) (t : Int) (w : World) (hl : l.length ≤ 1000000) (hp : LAt w oa l) :
    Calls Try.prog 31 #[.slice oa l.length c, .int .i64 t] w fun e w' => e = .returned (.int .i64 (nextI l t)) ∧ Gr w w' := by
  obtain ⟨RR, hRR⟩ : ∃ R, R = nextI l t := ⟨_, rfl⟩
  rw [← hRR]
  have HR : Hid (RR = nextK l t l.length) := hid hRR
  have HP := hid hp
  clear hRR hp
  go_enter Try.func31, Try.ntmps31
  go_wp2_with fail
  go_loopw [5] (fun i wr => ∃ k : Nat, i = .int .i64 ((k : Int) - 1) ∧ k ≤ l.length ∧ Gr w wr ∧ Hid (RR = nextK l t k)) (fun i _ => (intOf i + 1).toNat)
  case atStart => exact ⟨l.length, by go_num, Nat.le_refl _, Gr.refl _, HR⟩
  case round =>
    obtain ⟨k, rfl, hk, hg, H⟩ := hrel
    match k, hk, H with
    | 0, hk, H =>
      have hn : RR = 0 := H.out
      subst hn
      go_wp2
      go_ret
      exact ⟨rfl, hg⟩
    | k + 1, hk, H =>
      have hlt : k < l.length := hk
      have e1 : (((k + 1 : Nat) : Int) - 1) = (k : Int) := by omega
      rw [e1]
      clear e1
      obtain ⟨b, off, rfl, c0, c1, c2, c3, c4, c5, c6, c7, c8, c9, c10, c11⟩ := n_get (HP.out.keep hg) k hlt
      have HH := H.out
      rw [nextK, List.getElem?_eq_getElem hlt] at HH
      simp only at HH
      have hbb := lt_of_cell c0
      have gk1 : decide ((l.length : Int) ≤ (k : Int)) = false := by rw [decide_eq_false_iff_not]; omega
      have gk2 : (k : Int) < (l.length : Int) := by omega
      have gk3 : (0 : Int) ≤ (k : Int) := by omega
      clear H hk
      generalize l[k] = x at *
      by_cases ht : x.txn = t
      · have gt : (x.txn == t) = true := by simpa using ht
        rw [if_pos ht] at HH
        have HX := hid HH
        clear HH ht
        go_wp2
        go_ret
        exact ⟨by rw [HX.out]; rfl, hg⟩
      · have gt : (x.txn == t) = false := by simpa using ht
        rw [if_neg ht] at HH
        have HX := hid HH
        clear HH ht
        go_wp2
        exact ⟨⟨k, by go_num, by omega, hg, HX⟩, by simp [intOf]⟩
end Go.Proofs.Ytmanokhadppeeaa
