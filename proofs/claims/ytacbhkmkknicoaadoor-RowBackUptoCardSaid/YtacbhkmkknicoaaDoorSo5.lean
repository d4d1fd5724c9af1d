/- row: what sorting rows does, plain: the rows are the same, in another order. -/
import Derived.Test.YtacbhkmkknicoaaDoorSo4
namespace Go.Proofs.YtacbhkmkknicoaaDoor
open Go.RowKit
set_option linter.unusedSimpArgs false
set_option linter.unusedVariables false
theorem swp_perm (d : List Rw) (i j : Nat) (hi : i < d.length) (hj : j < d.length) : (swp d i j).Perm d := by
  unfold swp
  rw [gx_of d i hi, gx_of d j hj]
  exact List.set_set_perm hi hj
theorem insJ_perm (a : Nat) : ∀ (n : Nat) (d : List Rw), a + n < d.length → (insJ a n d).Perm d
  | 0, d, _ => List.Perm.refl _
  | n + 1, d, h => by
    unfold insJ
    split
    · exact (insJ_perm a n _ (by rw [swp_len]; omega)).trans (swp_perm d _ _ h (by omega))
    · exact List.Perm.refl _
theorem insI_perm (a : Nat) : ∀ (n : Nat) (d : List Rw), (n = 0 ∨ a + n < d.length) → (insI a n d).Perm d
  | 0, d, _ => List.Perm.refl _
  | n + 1, d, h => by
    unfold insI
    exact (insJ_perm a (n + 1) _ (by rw [insI_len]; omega)).trans (insI_perm a n d (by omega))
theorem swR_perm (a b : Nat) : ∀ (n : Nat) (d : List Rw), a + n ≤ d.length → b + n ≤ d.length → (swR a b n d).Perm d
  | 0, d, _, _ => List.Perm.refl _
  | n + 1, d, h1, h2 => by
    unfold swR
    exact (swp_perm _ _ _ (by rw [swR_len]; omega) (by rw [swR_len]; omega)).trans (swR_perm a b n d (by omega) (by omega))
theorem rotF_perm (m : Nat) : ∀ (f i j : Nat) (d : List Rw), i ≤ m → m + j ≤ d.length → (rotF m f i j d).Perm d
  | 0, _, _, d, _, _ => List.Perm.refl _
  | f + 1, i, j, d, h1, h2 => by
    unfold rotF
    split
    · exact swR_perm _ _ _ _ (by omega) (by omega)
    · split
      · exact (rotF_perm m f _ _ _ (by omega) (by rw [swR_len]; omega)).trans (swR_perm _ _ _ _ (by omega) (by omega))
      · exact (rotF_perm m f _ _ _ (by omega) (by rw [swR_len]; omega)).trans (swR_perm _ _ _ _ (by omega) (by omega))
theorem mvU_perm (a : Nat) : ∀ (n : Nat) (d : List Rw), (n = 0 ∨ a + n < d.length) → (mvU a n d).Perm d
  | 0, d, _ => List.Perm.refl _
  | n + 1, d, h => by
    unfold mvU
    exact (swp_perm _ _ _ (by rw [mvU_len]; omega) (by rw [mvU_len]; omega)).trans (mvU_perm a n d (by omega))
theorem mvD_perm (m : Nat) : ∀ (n : Nat) (d : List Rw), m < d.length → (mvD m n d).Perm d
  | 0, d, _ => List.Perm.refl _
  | n + 1, d, h => by
    unfold mvD
    exact (swp_perm _ _ _ (by rw [mvD_len]; omega) (by rw [mvD_len]; omega)).trans (mvD_perm m n d h)
theorem syS_bd (d : List Rw) (a m b M : Nat) (h1 : a < m) (h2 : m < b) (hM : M = (a + b) / 2) : syS d a m b M ≤ m ∧ M ≤ M + m - syS d a m b M ∧ M + m - syS d a m b M ≤ b := by
  unfold syS
  have hb := bsF_bd (fun c => !ltR (gx d (M + m - 1 - c)) (gx d c)) (sy1 m M - sy0 m b M a) (sy0 m b M a) (sy1 m M) (by unfold sy0 sy1; split <;> omega)
  revert hb
  unfold sy0 sy1
  split <;> intro hb <;> omega
theorem symF_perm : ∀ (f : Nat) (d : List Rw) (a m b : Nat), a < m → m < b → b ≤ d.length → (symF f d a m b).Perm d
  | 0, _, _, _, _, _, _, _ => List.Perm.refl _
  | f + 1, d, a, m, b, h1, h2, h3 => by
    unfold symF
    split
    · have hb := bsF_bd (fun h => ltR (gx d h) (gx d a)) (b - m) m b (by omega)
      exact mvU_perm _ _ _ (by omega)
    · split
      · exact mvD_perm _ _ _ (by omega)
      · simp only
        obtain ⟨M, hM⟩ : ∃ x, (a + b) / 2 = x := ⟨_, rfl⟩
        rw [hM]
        have hs := syS_bd d a m b M h1 h2 hM.symm
        generalize syS d a m b M = R at *
        obtain ⟨E, hE⟩ : ∃ E, M + m - R = E := ⟨_, rfl⟩
        rw [hE] at hs ⊢
        have p1 : (if R < m ∧ m < E then rotF m (E - R) (m - R) (E - m) d else d).Perm d := by
          split
          · exact rotF_perm _ _ _ _ _ (by omega) (by omega)
          · exact List.Perm.refl _
        have l1 := p1.length_eq
        generalize (if R < m ∧ m < E then rotF m (E - R) (m - R) (E - m) d else d) = d1 at *
        have p2 : (if a < R ∧ R < M then symF f d1 a R M else d1).Perm d := by
          split
          · rename_i h
            exact (symF_perm f d1 a R M h.1 h.2 (by omega)).trans p1
          · exact p1
        have l2 := p2.length_eq
        generalize (if a < R ∧ R < M then symF f d1 a R M else d1) = d2 at *
        split
        · rename_i h
          exact (symF_perm f d2 M E b h.1 h.2 (by omega)).trans p2
        · exact p2
/-- sorting up to 40 rows -/
def stF (d : List Rw) : List Rw := if d.length ≤ 20 then insI 0 (d.length - 1) d else symF d.length (insI 20 (d.length - 1 - 20) (insI 0 19 d)) 0 20 d.length
theorem stF_perm (d : List Rw) (h : d.length ≤ 40) : (stF d).Perm d := by
  unfold stF
  split
  · exact insI_perm _ _ _ (by omega)
  · have p1 := insI_perm 0 19 d (by omega)
    have p2 := insI_perm 20 (d.length - 1 - 20) (insI 0 19 d) (by rw [insI_len]; omega)
    exact (symF_perm _ _ _ _ _ (by omega) (by omega) (by rw [insI_len, insI_len]; omega)).trans (p2.trans p1)
end Go.Proofs.YtacbhkmkknicoaaDoor
