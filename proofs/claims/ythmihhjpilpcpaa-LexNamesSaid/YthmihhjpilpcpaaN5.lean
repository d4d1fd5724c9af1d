/- lex.Name: what a name is. -/
import Derived.Test.YthmihhjpilpcpaaN3
import Derived.Test.YthmihhjpilpcpaaN4
import Derived.Test.YthmihhjpilpcpaaR1
namespace Go.Proofs.Ythmihhjpilpcpaa
open Go.RowKit
set_option linter.unusedVariables false
open Lx in
def okB (c : UInt8) : Bool := digitB c || (letterB c && !upperB c)
open Lx in
theorem ok_char (c : UInt8) : okB c = (innerB c && low c == c) := by
  have : ∀ n : Fin 256, okB (UInt8.ofNat n.val) = (innerB (UInt8.ofNat n.val) && low (UInt8.ofNat n.val) == UInt8.ofNat n.val) := by decide +kernel
  have h := this ⟨c.toNat, c.toNat_lt⟩
  simpa using h
open Lx in
theorem runL_full (p : UInt8 → Bool) (l : List UInt8) : (runL p l == l.length) = l.all p := by
  induction l with
  | nil => rfl
  | cons c r ih =>
    simp only [runL, List.all_cons, List.length_cons]
    cases p c with
    | true => simp only [if_true, Bool.true_and, ← ih]; rw [Bool.eq_iff_iff]; simp
    | false => simp
open Lx in
theorem low_full (l : List UInt8) : (l.map low == l) = l.all (fun c => low c == c) := by
  induction l with
  | nil => rfl
  | cons c r ih => simp only [List.map_cons, List.all_cons, ← ih]; rfl
open Lx in
theorem ok_full (l : List UInt8) : l.all okB = (runL innerB l == l.length && l.map low == l) := by
  rw [runL_full, low_full]
  induction l with
  | nil => rfl
  | cons c r ih =>
    simp only [List.all_cons, ih, ok_char]
    cases innerB c <;> cases (low c == c) <;> simp
open Lx in
/-- what both tell of a name -/
def nameB (l : List UInt8) : Bool := match l with
  | [] => false
  | c :: r => decide ((c :: r).length ≤ 32) && !digitB c && (c :: r).all okB && !keptB (c :: r)
set_option maxHeartbeats 1000000 in
set_option maxRecDepth 100000 in
theorem name_empty (w : World) :
    Calls Try.prog 14 #[.string ⟨#[]⟩] w fun e w' => e = .returned (.bool false) ∧ w' = w := by
  go_enter Try.func14, Try.ntmps14
  go_wp2
  go_ret
  exact ⟨rfl, rfl⟩
set_option maxHeartbeats 1000000 in
set_option maxRecDepth 100000 in
theorem name_full (s : ByteArray) (m : Int) (w : World) (c : UInt8) (r : List UInt8) (hc : s.data.toList = c :: r) (hs : s.size ≤ 140737488355328) (hm : w.cell? ⟨0, 0, none⟩ = some (.int .i64 m)) :
    Calls Try.prog 14 #[.string s] w fun e w' => e = .returned (.bool (nameB s.data.toList)) ∧ Below w.heap.size w w' := by
  have hne2 : ¬ s.toList = [] := by rw [ByteArray.toList_eq, hc]; simp
  have hne : s.toList.isEmpty = false := by cases h : s.toList with | nil => exact absurd h hne2 | cons _ _ => rfl
  have hpos : 0 < s.size := by
    have := congrArg List.length hc
    simp at this; omega
  have hget : s[0] = c := by
    have : s.data.toList[0]? = some c := by rw [hc]; rfl
    simp at this
    exact (Array.getElem?_eq_some_iff.1 this).2
  have hnB : nameB s.data.toList = (decide (s.size ≤ 32) && !Lx.digitB c && (Lx.runL Lx.innerB s.data.toList == s.size && s.data.toList.map Lx.low == s.data.toList) && !keptB s.data.toList) := by
    have e : s.size = s.data.toList.length := by simp
    rw [e, ← ok_full, hc]; rfl
  have hsm : s.size ≤ maxLen := by unfold maxLen; omega
  have HnB := hid hnB
  clear hnB
  have hne0 : Hid (s.data.toList ≠ []) := by refine hid ?_; rw [hc]; simp
  clear hc
  cases h32 : decide (s.size ≤ 32) with
  | false =>
    have t32 : decide ((s.size : Int) ≤ 32) = false := by simp at h32 ⊢; omega
    have hv : Hid (nameB s.data.toList = false) := by refine hid ?_; rw [HnB.out, h32]; rfl
    go_enter Try.func14, Try.ntmps14
    go_wp2
    go_ret
    exact ⟨by rw [hv.out]; rfl, Below.refl _ _⟩
  | true =>
    have t32 : decide ((s.size : Int) ≤ 32) = true := by simp at h32 ⊢; omega
    go_enter Try.func14, Try.ntmps14
    go_wp2_with fail
    refine (digit_any c _).mono ?_
    rintro e w' ⟨rfl, rfl⟩
    cases hd : Lx.digitB c with
    | true =>
      have hv : Hid (nameB s.data.toList = false) := by refine hid ?_; rw [HnB.out, hd]; simp
      go_wp2
      go_ret
      exact ⟨by rw [hv.out]; rfl, Below.refl _ _⟩
    | false =>
      go_wp2_with fail
      refine (run_inner s _ hsm).mono ?_
      rintro e w' ⟨rfl, rfl⟩
      cases hr : (Lx.runL Lx.innerB s.data.toList == s.size) with
      | false =>
        have tr : ((Lx.runL Lx.innerB s.data.toList : Int) == (s.size : Int)) = false := by rw [← hr]; exact ibeq' _ _
        have hv : Hid (nameB s.data.toList = false) := by refine hid ?_; rw [HnB.out, hr]; simp
        go_wp2
        go_ret
        exact ⟨by rw [hv.out]; rfl, Below.refl _ _⟩
      | true =>
        have tr : ((Lx.runL Lx.innerB s.data.toList : Int) == (s.size : Int)) = true := by rw [← hr]; exact ibeq' _ _
        have hv : Hid (nameB s.data.toList = ((s.data.toList.map Lx.low == s.data.toList) && !keptB s.data.toList)) := by refine hid ?_; rw [HnB.out, hr, h32, hd]; rfl
        clear HnB
        generalize Lx.runL Lx.innerB s.data.toList = rn at *
        clear hr
        go_wp2_with fail
        refine (small_any s _ hsm).mono ?_
        rintro e w2 ⟨rfl, hb2⟩
        have hll : (⟨(s.data.toList.map Lx.low).toArray⟩ : ByteArray).toList = s.data.toList.map Lx.low := ByteArray.toList_mk _
        have hsl : s.toList = s.data.toList := ByteArray.toList_eq s
        have heq : ((⟨(s.data.toList.map Lx.low).toArray⟩ : ByteArray).toList == s.toList) = (s.data.toList.map Lx.low == s.data.toList) := by rw [hll, hsl]
        clear hll hsl
        generalize (⟨(s.data.toList.map Lx.low).toArray⟩ : ByteArray) = lo at *
        cases hl : (s.data.toList.map Lx.low == s.data.toList) with
        | false =>
          rw [hl] at heq hv
          go_wp2
          go_ret
          exact ⟨by rw [hv.out]; rfl, hb2⟩
        | true =>
          rw [hl] at heq hv
          have hm2 := keep_cell hm hb2
          go_wp2_with fail
          refine (reserved_full s m _ hne0.out hs hm2).mono ?_
          rintro e w3 ⟨rfl, rfl⟩
          have hv2 : nameB s.data.toList = !keptB s.data.toList := hv.out
          clear hv
          generalize keptB s.data.toList = kb at *
          have Hv2 := hid hv2
          clear hv2
          cases kb with
          | true =>
            go_wp2
            go_ret
            exact ⟨by rw [Hv2.out]; rfl, hb2⟩
          | false =>
            go_wp2
            go_ret
            exact ⟨by rw [Hv2.out]; rfl, hb2⟩
end Go.Proofs.Ythmihhjpilpcpaa
