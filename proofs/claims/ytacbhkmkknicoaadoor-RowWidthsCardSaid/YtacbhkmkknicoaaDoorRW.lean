/- row: the law RowWidths: what it reckons with. -/
import Derived.Test.YtacbhkmkknicoaaDoorK2
namespace Go.Proofs.YtacbhkmkknicoaaDoor
open Go.RowKit
set_option linter.unusedSimpArgs false
set_option linter.unusedVariables false
/-- n times the letter x -/
def xsL (n : Nat) : List Int := List.replicate n 120
def xS (n : Nat) : ByteArray := strOfNums (xsL n)
theorem xS_size (n : Nat) : (xS n).size = n := by unfold xS xsL; rw [strOfNums_size]; simp
theorem xS_list (n : Nat) : (xS n).data.toList = List.replicate n 120 := by
  unfold xS xsL
  rw [strOfNums_data, List.map_replicate]
  rfl
theorem esc_rep : ∀ n : Nat, (esc (List.replicate n 120)).length = n
  | 0 => rfl
  | n + 1 => by
    have e : esc (List.replicate (n + 1) 120) = [120] ++ esc (List.replicate n 120) := by rw [List.replicate_succ]; rfl
    rw [e, List.length_append, esc_rep n]; simp; omega
def rwL (n : Nat) (nu : Bool) : List V := [textV (xS n), if nu = true then nul else numV 5]
theorem rw_len (n : Nat) (nu : Bool) : (joinV (rwL n nu)).length = n + 3 + (if nu = true then 1 else 9) := by
  have e1 : (encV (textV (xS n))).length = n + 3 := by
    have e0 : encV (textV (xS n)) = encT (xS n) := rfl
    rw [e0]
    unfold encT
    rw [List.length_cons, List.length_append, xS_list, esc_rep]
    rfl
  cases nu
  · simp only [joinV, rwL, List.flatMap_cons, List.flatMap_nil, List.append_nil, List.length_append, e1]
    rfl
  · simp only [joinV, rwL, List.flatMap_cons, List.flatMap_nil, List.append_nil, List.length_append, e1]
    rfl
def rwC (ix : Bool) : List Col := [⟨⟨#[97]⟩, 2, false, ix⟩, ⟨⟨#[98]⟩, 1, true, false⟩]
def rwT (g : Nat) (ix : Bool) : Tb := ⟨⟨#[116]⟩, some ⟨g, 0, none⟩, rwC ix, 2, none, [], 0, 0, none, [], 0⟩
def rwE (n : Nat) (nu : Bool) : Int := if n + 3 + (if nu = true then 1 else 9) ≤ 480 then 0 else 170
theorem rw_enc (n : Nat) (nu : Bool) : encE (rwL n nu) = rwE n nu := by unfold encE rwE; rw [rw_len]
def rwK (n : Nat) (nu ix : Bool) : Int := if (ix && decide (40 < n)) = true then 170 else if nu = true then 163 else rwE n nu
theorem rw_check (g n : Nat) (nu ix : Bool) : checkR (rwT g ix) (rwL n nu) = rwK n nu ix := by
  have hl : longB (textV (xS n)) = decide (40 < n) := by
    unfold longB textV
    simp only
    rw [xS_size]
    rfl
  have h1 : badV [] 0 (textV (xS n)) ⟨⟨#[97]⟩, 2, false, ix⟩ = if (ix && decide (40 < n)) = true then 170 else 0 := by
    unfold badV
    rw [hl]
    simp [textV, hasX]
  have h2 : badV [] 1 (if nu = true then nul else numV 5) ⟨⟨#[98]⟩, 1, true, false⟩ = if nu = true then 163 else 0 := by
    cases nu <;> rfl
  have e : checkR (rwT g ix) (rwL n nu) = chk [] (encE (rwL n nu)) 0 (rwL n nu) (rwC ix) := rfl
  rw [e, rw_enc]
  unfold rwL rwC
  rw [chk, h1, chk, h2, chk]
  unfold rwK
  cases hq : (ix && decide (40 < n)) <;> cases nu <;> simp
theorem rw_check1 (g n : Nat) (nu ix : Bool) : checkR (rwT g ix) [textV (xS n)] = 160 := rfl
theorem rw_ok (n : Nat) (hn : n ≤ 700) (nu : Bool) : ∀ v ∈ rwL n nu, VOk v := by
  intro v hv
  simp only [rwL, List.mem_cons, List.not_mem_nil, or_false] at hv
  rcases hv with rfl | rfl
  · exact ⟨⟨show (-9223372036854775808 : Int) ≤ 0 by decide, show (0 : Int) ≤ 9223372036854775807 by decide⟩, by show 2 * (xS n).size + 3 ≤ _; rw [xS_size]; omega⟩
  · cases nu
    · exact ⟨⟨by decide, by decide⟩, by decide⟩
    · exact ⟨⟨by decide, by decide⟩, by decide⟩
end Go.Proofs.YtacbhkmkknicoaaDoor
