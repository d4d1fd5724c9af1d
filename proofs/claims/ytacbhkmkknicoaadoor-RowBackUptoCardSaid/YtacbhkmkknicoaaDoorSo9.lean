/- row: how rows stand is an order; plain. -/
import Derived.Test.YtacbhkmkknicoaaDoorSo5
namespace Go.Proofs.YtacbhkmkknicoaaDoor
open Go.RowKit
set_option linter.unusedSimpArgs false
set_option linter.unusedVariables false
/-- a comparison -/
structure Cmp {α : Type} (c : α → α → Int) : Prop where
  sw : ∀ x y, c y x = -(c x y)
  tr : ∀ x y z, c x y ≤ 0 → c y z ≤ 0 → c x z ≤ 0
theorem Cmp.rf {α : Type} {c : α → α → Int} (h : Cmp c) (x : α) : c x x = 0 := by
  have := h.sw x x; omega
theorem Cmp.tr0 {α : Type} {c : α → α → Int} (h : Cmp c) {x y z : α} (h1 : c x y = 0) (h2 : c y z = 0) : c x z = 0 := by
  have a := h.tr x y z (by omega) (by omega)
  have b := h.tr z y x (by have := h.sw y z; omega) (by have := h.sw x y; omega)
  have := h.sw x z
  omega
theorem Cmp.lt1 {α : Type} {c : α → α → Int} (h : Cmp c) {x y z : α} (h1 : c x y < 0) (h2 : c y z ≤ 0) : c x z < 0 := by
  refine Int.lt_of_not_ge fun hge => ?_
  have a := h.tr y z x h2 (by have := h.sw x z; omega)
  have := h.sw x y
  omega
theorem Cmp.lt2 {α : Type} {c : α → α → Int} (h : Cmp c) {x y z : α} (h1 : c x y ≤ 0) (h2 : c y z < 0) : c x z < 0 := by
  refine Int.lt_of_not_ge fun hge => ?_
  have a := h.tr z x y (by have := h.sw x z; omega) h1
  have := h.sw y z
  omega
/-- the first that is not alike decides -/
theorem Cmp.thn {α : Type} {c d : α → α → Int} (h : Cmp c) (k : Cmp d) : Cmp (fun x y => if c x y = 0 then d x y else c x y) where
  sw x y := by
    have h1 := h.sw x y
    have h2 := k.sw x y
    (try simp only)
    split <;> split <;> omega
  tr x y z h1 h2 := by
    (try simp only at h1 h2 ⊢)
    split at h1
    · rename_i a1
      split at h2
      · rename_i a2
        rw [if_pos (h.tr0 a1 a2)]
        exact k.tr x y z h1 h2
      · rename_i a2
        have : c x z < 0 := h.lt2 (y := y) (by omega) (by omega)
        rw [if_neg (by omega)]; omega
    · rename_i a1
      have a3 : c x y < 0 := by omega
      have a4 : c y z ≤ 0 := by split at h2 <;> omega
      have : c x z < 0 := h.lt1 a3 a4
      rw [if_neg (by omega)]; omega
theorem Cmp.on {α β : Type} {c : β → β → Int} (h : Cmp c) (f : α → β) : Cmp (fun x y => c (f x) (f y)) := ⟨fun x y => h.sw _ _, fun x y z => h.tr _ _ _⟩
theorem cmp_I : Cmp cmpI where
  sw x y := by unfold cmpI; split <;> split <;> omega
  tr x y z h1 h2 := by unfold cmpI at *; split at h1 <;> split at h2 <;> split <;> first | omega | (split at h1 <;> split at h2 <;> omega) | (split at h1 <;> omega) | (split at h2 <;> omega)
/-- lists, the shorter first -/
def cmpLs {α : Type} (c : α → α → Int) : List α → List α → Int
  | [], [] => 0
  | [], _ :: _ => -1
  | _ :: _, [] => 1
  | a :: r, b :: s => if c a b = 0 then cmpLs c r s else c a b
theorem Cmp.ls_sw {α : Type} {c : α → α → Int} (h : Cmp c) : ∀ x y, cmpLs c y x = -(cmpLs c x y)
  | [], [] => rfl
  | [], _ :: _ => rfl
  | _ :: _, [] => rfl
  | a :: r, b :: s => by
    have h1 := h.sw a b
    have ih := h.ls_sw r s
    simp only [cmpLs]
    split <;> split <;> omega
theorem Cmp.ls_tr {α : Type} {c : α → α → Int} (h : Cmp c) : ∀ x y z, cmpLs c x y ≤ 0 → cmpLs c y z ≤ 0 → cmpLs c x z ≤ 0
  | [], [], [], _, _ => by simp [cmpLs]
  | [], _, _ :: _, _, _ => by simp [cmpLs]
  | [], _ :: _, [], _, h2 => by simp [cmpLs] at h2
  | _ :: _, [], _, h1, _ => by simp [cmpLs] at h1
  | _ :: _, _ :: _, [], _, h2 => by simp [cmpLs] at h2
  | a :: r, b :: s, d :: t, h1, h2 => by
    have ih := h.ls_tr r s t
    simp only [cmpLs] at h1 h2 ⊢
    split at h1
    · rename_i a1
      split at h2
      · rename_i a2
        rw [if_pos (h.tr0 a1 a2)]
        exact ih h1 h2
      · rename_i a2
        have : c a d < 0 := h.lt2 (y := b) (by omega) (by omega)
        rw [if_neg (by omega)]; omega
    · rename_i a1
      have a3 : c a b < 0 := by omega
      have a4 : c b d ≤ 0 := by split at h2 <;> omega
      have : c a d < 0 := h.lt1 a3 a4
      rw [if_neg (by omega)]; omega
theorem Cmp.ls {α : Type} {c : α → α → Int} (h : Cmp c) : Cmp (cmpLs c) := ⟨h.ls_sw, h.ls_tr⟩
theorem bytes_ls : ∀ a b : List UInt8, Lib.compareBytes a b = cmpLs (fun x y : UInt8 => cmpI x.toNat y.toNat) a b
  | [], [] => rfl
  | [], _ :: _ => rfl
  | _ :: _, [] => rfl
  | a :: r, b :: s => by
    have ih := bytes_ls r s
    simp only [Lib.compareBytes, cmpLs]
    have h1 : (a < b) ↔ a.toNat < b.toNat := UInt8.lt_iff_toNat_lt
    have h2 : (b < a) ↔ b.toNat < a.toNat := UInt8.lt_iff_toNat_lt
    by_cases p : a < b
    · have := h1.1 p
      have e : cmpI (a.toNat : Int) (b.toNat : Int) = -1 := by unfold cmpI; rw [if_pos (by omega)]
      rw [if_pos p, e, if_neg (by decide)]
    · by_cases q : b < a
      · have := h2.1 q
        have e : cmpI (a.toNat : Int) (b.toNat : Int) = 1 := by unfold cmpI; rw [if_neg (by omega), if_pos (by omega)]
        rw [if_neg p, if_pos q, e, if_neg (by decide)]
      · have e : cmpI (a.toNat : Int) (b.toNat : Int) = 0 := by
          unfold cmpI
          rw [if_neg (by rw [h1] at p; omega), if_neg (by rw [h2] at q; omega)]
        rw [if_neg p, if_neg q, e, if_pos rfl, ih]
theorem cmp_B : Cmp (fun a b : V => Lib.compareBytes a.s.data.toList b.s.data.toList) := by
  have : (fun a b : V => Lib.compareBytes a.s.data.toList b.s.data.toList) = fun a b : V => cmpLs (fun x y : UInt8 => cmpI x.toNat y.toNat) a.s.data.toList b.s.data.toList := by
    funext a b; exact bytes_ls _ _
  rw [this]
  exact ((cmp_I.on (fun x : UInt8 => (x.toNat : Int))).ls).on (fun v : V => v.s.data.toList)
theorem cmpI0 (x y : Int) : cmpI x y = 0 ↔ x = y := by unfold cmpI; split <;> (try split) <;> omega
theorem cmp_V : Cmp cmpV where
  sw x y := by
    have hI := cmp_I.sw
    have hB := cmp_B.sw x y
    (try simp only at hB)
    unfold cmpV
    by_cases ht : x.t = y.t
    · rw [if_pos ht, if_pos ht.symm, ht]
      split
      · exact hI _ _
      · split
        · exact hB
        · split
          · exact hI _ _
          · rfl
    · rw [if_neg ht, if_neg (fun e => ht e.symm)]
      exact hI _ _
  tr x y z h1 h2 := by
    have hI := cmp_I.tr
    have hB := cmp_B.tr x y z
    (try simp only at hB)
    unfold cmpV at *
    by_cases hxy : x.t = y.t
    · rw [if_pos hxy] at h1
      by_cases hyz : y.t = z.t
      · rw [if_pos hyz] at h2
        rw [if_pos (hxy.trans hyz)]
        rw [hxy] at h1 ⊢
        split at h1
        · rw [if_pos (by assumption)] at h2 ⊢; exact hI _ _ _ h1 h2
        · rename_i q1
          rw [if_neg q1] at h2 ⊢
          split at h1
          · rename_i q2
            rw [if_pos q2] at h2 ⊢; exact hB h1 h2
          · rename_i q2
            rw [if_neg q2] at h2 ⊢
            split at h1
            · rename_i q3
              rw [if_pos q3] at h2 ⊢; exact hI _ _ _ h1 h2
            · rename_i q3
              rw [if_neg q3]; omega
      · rw [if_neg hyz] at h2
        rw [if_neg (by rw [hxy]; exact hyz), hxy]
        exact h2
    · rw [if_neg hxy] at h1
      by_cases hyz : y.t = z.t
      · rw [if_neg (by rw [← hyz]; exact hxy), ← hyz]
        exact h1
      · rw [if_neg hyz] at h2
        have n1 : cmpI x.t y.t < 0 := by
          have := (cmpI0 x.t y.t).1
          rcases Int.lt_or_eq_of_le h1 with h | h
          · exact h
          · exact absurd (this h) hxy
        have n3 : cmpI x.t z.t < 0 := cmp_I.lt1 n1 h2
        have hxz : ¬ x.t = z.t := fun e => by
          have := (cmpI0 x.t z.t).2 e
          omega
        rw [if_neg hxz]; omega
theorem cmpR_ls : ∀ a b : List V, cmpR a b = cmpLs cmpV a b
  | [], [] => rfl
  | [], _ :: _ => rfl
  | _ :: _, [] => rfl
  | a :: r, b :: s => by simp only [cmpR, cmpLs, cmpR_ls r s]
theorem cmp_R : Cmp cmpR := by
  have : cmpR = cmpLs cmpV := by funext a b; exact cmpR_ls a b
  rw [this]; exact cmp_V.ls
/-- one row is not behind another -/
def leR (x y : Rw) : Prop := cmpR x.l y.l ≤ 0
theorem le_of_not {x y : Rw} (h : ltR y x = false) : leR x y := by
  unfold ltR at h
  rw [decide_eq_false_iff_not] at h
  have := cmp_R.sw x.l y.l
  unfold leR; omega
theorem le_of_lt {x y : Rw} (h : ltR x y = true) : leR x y := by
  unfold ltR at h
  rw [decide_eq_true_iff] at h
  unfold leR; omega
theorem leR_rf (x : Rw) : leR x x := by unfold leR; rw [cmp_R.rf]; omega
theorem leR_tr {x y z : Rw} (h1 : leR x y) (h2 : leR y z) : leR x z := cmp_R.tr _ _ _ h1 h2
end Go.Proofs.YtacbhkmkknicoaaDoor
