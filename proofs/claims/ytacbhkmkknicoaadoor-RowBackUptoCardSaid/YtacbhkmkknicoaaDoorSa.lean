/- row: what sorting rows gives stands in order; plain. -/
import Derived.Test.YtacbhkmkknicoaaDoorSo9
namespace Go.Proofs.YtacbhkmkknicoaaDoor
open Go.RowKit
set_option linter.unusedSimpArgs false
set_option linter.unusedVariables false
theorem gx_swp (d : List Rw) (i j k : Nat) (hi : i < d.length) (hj : j < d.length) (hk : k < d.length) : gx (swp d i j) k = if k = j then gx d i else if k = i then gx d j else gx d k := by
  have hk2 : k < ((d.set i (gx d j)).set j (gx d i)).length := by simpa using hk
  have e : gx (swp d i j) k = ((d.set i (gx d j)).set j (gx d i))[k]'hk2 := gx_of _ _ hk2
  rw [e, List.getElem_set]
  by_cases h1 : j = k
  · rw [if_pos h1, if_pos h1.symm]
  · rw [if_neg h1, if_neg (fun e => h1 e.symm), List.getElem_set]
    by_cases h2 : i = k
    · rw [if_pos h2, if_pos h2.symm]
    · rw [if_neg h2, if_neg (fun e => h2 e.symm), gx_of d k hk]
/-- in order from a to b -/
def Sg (d : List Rw) (a b : Nat) : Prop := ∀ i j, a ≤ i → i < j → j < b → leR (gx d i) (gx d j)
/-- d' is d, what lies from a to b in another order -/
structure Sd (d d' : List Rw) (a b : Nat) : Prop where
  len : d'.length = d.length
  out : ∀ k, k < d.length → (k < a ∨ b ≤ k) → gx d' k = gx d k
  al : ∀ P : Rw → Prop, (∀ k, a ≤ k → k < b → P (gx d k)) → ∀ k, a ≤ k → k < b → P (gx d' k)
theorem Sd.refl (d : List Rw) (a b : Nat) : Sd d d a b := ⟨rfl, fun _ _ _ => rfl, fun P h => h⟩
theorem Sd.trans {d e f : List Rw} {a b : Nat} (h : Sd d e a b) (k : Sd e f a b) : Sd d f a b :=
  ⟨k.len.trans h.len, fun x hx ho => (k.out x (by rw [h.len]; exact hx) ho).trans (h.out x hx ho), fun P hP => k.al P (h.al P hP)⟩
theorem Sd.mono {d e : List Rw} {a b a' b' : Nat} (h : Sd d e a' b') (h1 : a ≤ a') (h2 : b' ≤ b) (h3 : b ≤ d.length) : Sd d e a b :=
  ⟨h.len, fun x hx ho => h.out x hx (by omega), fun P hP k hk1 hk2 => by
    by_cases hin : a' ≤ k ∧ k < b'
    · exact h.al P (fun x hx1 hx2 => hP x (by omega) (by omega)) k hin.1 hin.2
    · rw [h.out k (by omega) (by omega)]; exact hP k hk1 hk2⟩
theorem Sd.swp {d : List Rw} {a b i j : Nat} (hi : a ≤ i ∧ i < b) (hj : a ≤ j ∧ j < b) (hb : b ≤ d.length) : Sd d (swp d i j) a b :=
  ⟨swp_len d i j, fun k hk ho => by rw [gx_swp d i j k (by omega) (by omega) hk, if_neg (by omega), if_neg (by omega)], fun P hP k hk1 hk2 => by
    rw [gx_swp d i j k (by omega) (by omega) (by omega)]
    split
    · exact hP i hi.1 hi.2
    · split
      · exact hP j hj.1 hj.2
      · exact hP k hk1 hk2⟩
theorem insJ_sd (a : Nat) : ∀ (n : Nat) (d : List Rw), a + n < d.length → Sd d (insJ a n d) a (a + n + 1)
  | 0, d, _ => Sd.refl _ _ _
  | n + 1, d, h => by
    unfold insJ
    split
    · have s1 : Sd d (swp d (a + n + 1) (a + n)) a (a + (n + 1) + 1) := Sd.swp (by omega) (by omega) (by omega)
      have s2 := (insJ_sd a n (swp d (a + n + 1) (a + n)) (by rw [swp_len]; omega)).mono (a := a) (b := a + (n + 1) + 1) (Nat.le_refl _) (by omega) (by rw [swp_len]; omega)
      exact s1.trans s2
    · exact Sd.refl _ _ _
theorem insJ_sg (a : Nat) : ∀ (n : Nat) (d : List Rw), a + n < d.length → Sg d a (a + n) → Sg (insJ a n d) a (a + n + 1)
  | 0, d, _, _ => fun i j h1 h2 h3 => by omega
  | n + 1, d, h, hs => by
    unfold insJ
    split
    · rename_i hlt
      have hx := le_of_lt hlt
      obtain ⟨e, he⟩ : ∃ e, swp d (a + n + 1) (a + n) = e := ⟨_, rfl⟩
      have hel : e.length = d.length := by rw [← he, swp_len]
      have g0 : gx e (a + n) = gx d (a + n + 1) := by rw [← he, gx_swp _ _ _ _ (by omega) (by omega) (by omega), if_pos rfl]
      have g1 : gx e (a + n + 1) = gx d (a + n) := by rw [← he, gx_swp _ _ _ _ (by omega) (by omega) (by omega), if_neg (by omega), if_pos rfl]
      have g2 : ∀ k, k < a + n → gx e k = gx d k := fun k hk => by rw [← he, gx_swp _ _ _ _ (by omega) (by omega) (by omega), if_neg (by omega), if_neg (by omega)]
      rw [he]
      have ih := insJ_sg a n e (by omega) (fun i j h1 h2 h3 => by rw [g2 i (by omega), g2 j h3]; exact hs i j h1 h2 (by omega))
      have sd := insJ_sd a n e (by omega)
      intro i j h1 h2 h3
      by_cases hj : j = a + n + 1
      · subst hj
        rw [sd.out (a + n + 1) (by omega) (.inr (Nat.le_refl _)), g1]
        refine sd.al (fun r => leR r (gx d (a + n))) (fun k hk1 hk2 => ?_) i h1 (by omega)
        by_cases hk : k = a + n
        · rw [hk, g0]; exact hx
        · rw [g2 k (by omega)]; exact hs k (a + n) hk1 (by omega) (by omega)
      · exact ih i j h1 h2 (by omega)
    · rename_i hlt
      have hx := le_of_not (by simpa using hlt : ltR (gx d (a + n + 1)) (gx d (a + n)) = false)
      intro i j h1 h2 h3
      by_cases hj : j = a + n + 1
      · subst hj
        by_cases hi : i = a + n
        · rw [hi]; exact hx
        · exact leR_tr (hs i (a + n) h1 (by omega) (by omega)) hx
      · exact hs i j h1 h2 (by omega)
theorem insI_sd (a : Nat) : ∀ (n : Nat) (d : List Rw), a + n < d.length → Sd d (insI a n d) a (a + n + 1)
  | 0, d, _ => Sd.refl _ _ _
  | n + 1, d, h => by
    unfold insI
    have s1 := (insI_sd a n d (by omega)).mono (a := a) (b := a + (n + 1) + 1) (Nat.le_refl _) (by omega) (by omega)
    exact s1.trans (insJ_sd a (n + 1) _ (by rw [insI_len]; omega))
theorem insI_sg (a : Nat) : ∀ (n : Nat) (d : List Rw), a + n < d.length → Sg (insI a n d) a (a + n + 1)
  | 0, d, _ => fun i j h1 h2 h3 => by omega
  | n + 1, d, h => by
    unfold insI
    exact insJ_sg a (n + 1) _ (by rw [insI_len]; omega) (insI_sg a n d (by omega))
theorem swR_ef (a b : Nat) : ∀ (n : Nat) (d : List Rw), a + n ≤ b → b + n ≤ d.length →
    (∀ k, k < n → gx (swR a b n d) (a + k) = gx d (b + k)) ∧ (∀ k, k < n → gx (swR a b n d) (b + k) = gx d (a + k)) ∧ ∀ k, k < d.length → (k < a ∨ (a + n ≤ k ∧ k < b) ∨ b + n ≤ k) → gx (swR a b n d) k = gx d k
  | 0, d, _, _ => ⟨fun k h => by omega, fun k h => by omega, fun k _ _ => rfl⟩
  | n + 1, d, h1, h2 => by
    obtain ⟨e1, e2, e3⟩ := swR_ef a b n d (by omega) (by omega)
    have hl := swR_len a b n d
    unfold swR
    generalize swR a b n d = e at *
    refine ⟨fun k hk => ?_, fun k hk => ?_, fun k hk ho => ?_⟩
    · rw [gx_swp _ _ _ _ (by omega) (by omega) (by omega), if_neg (by omega)]
      by_cases hkn : k = n
      · rw [hkn, if_pos rfl, e3 (b + n) (by omega) (by omega)]
      · rw [if_neg (by omega)]; exact e1 k (by omega)
    · rw [gx_swp _ _ _ _ (by omega) (by omega) (by omega)]
      by_cases hkn : k = n
      · rw [hkn, if_pos rfl, e3 (a + n) (by omega) (by omega)]
      · rw [if_neg (by omega), if_neg (by omega)]; exact e2 k (by omega)
    · rw [gx_swp _ _ _ _ (by omega) (by omega) (by omega), if_neg (by omega), if_neg (by omega)]
      exact e3 k hk (by omega)
theorem rotF_ef (m : Nat) : ∀ (f i j : Nat) (d : List Rw), 1 ≤ i → 1 ≤ j → i ≤ m → m + j ≤ d.length → i + j ≤ f →
    (∀ k, k < j → gx (rotF m f i j d) (m - i + k) = gx d (m + k)) ∧ (∀ k, k < i → gx (rotF m f i j d) (m - i + j + k) = gx d (m - i + k)) ∧ ∀ k, k < d.length → (k < m - i ∨ m + j ≤ k) → gx (rotF m f i j d) k = gx d k
  | 0, i, j, d, h1, h2, _, _, h3 => by omega
  | f + 1, i, j, d, h1, h2, h3, h4, h5 => by
    unfold rotF
    split
    · rename_i hij
      subst hij
      obtain ⟨e1, e2, e3⟩ := swR_ef (m - i) m i d (by omega) (by omega)
      refine ⟨e1, fun k hk => ?_, fun k hk ho => e3 k hk (by omega)⟩
      rw [show m - i + i + k = m + k by omega]; exact e2 k hk
    · rename_i hij
      split
      · rename_i hji
        obtain ⟨e1, e2, e3⟩ := swR_ef (m - i) m j d (by omega) (by omega)
        have hl := swR_len (m - i) m j d
        generalize swR (m - i) m j d = e at *
        obtain ⟨f1, f2, f3⟩ := rotF_ef m f (i - j) j e (by omega) h2 (by omega) (by omega) (by omega)
        generalize rotF m f (i - j) j e = r at *
        refine ⟨fun k hk => ?_, fun k hk => ?_, fun k hk ho => ?_⟩
        · rw [f3 (m - i + k) (by omega) (by omega)]; exact e1 k hk
        · by_cases hkj : k < j
          · have := f1 k hkj
            rw [show m - (i - j) + k = m - i + j + k by omega] at this
            rw [this]; exact e2 k hkj
          · have := f2 (k - j) (by omega)
            rw [show m - (i - j) + j + (k - j) = m - i + j + k by omega, show m - (i - j) + (k - j) = m - i + k by omega] at this
            rw [this]; exact e3 (m - i + k) (by omega) (by omega)
        · rw [f3 k (by omega) (by omega)]; exact e3 k hk (by omega)
      · rename_i hji
        obtain ⟨e1, e2, e3⟩ := swR_ef (m - i) (m + j - i) i d (by omega) (by omega)
        have hl := swR_len (m - i) (m + j - i) i d
        generalize swR (m - i) (m + j - i) i d = e at *
        obtain ⟨f1, f2, f3⟩ := rotF_ef m f i (j - i) e h1 (by omega) h3 (by omega) (by omega)
        generalize rotF m f i (j - i) e = r at *
        refine ⟨fun k hk => ?_, fun k hk => ?_, fun k hk ho => ?_⟩
        · by_cases hkj : k < j - i
          · rw [f1 k hkj]; exact e3 (m + k) (by omega) (by omega)
          · have h6 := f2 (k - (j - i)) (by omega)
            rw [show m - i + (j - i) + (k - (j - i)) = m - i + k by omega] at h6
            rw [h6, e1 _ (by omega)]
            congr 1; omega
        · have h6 := f3 (m - i + j + k) (by omega) (by omega)
          rw [h6]
          have h7 := e2 k hk
          rw [show m + j - i + k = m - i + j + k by omega] at h7
          exact h7
        · rw [f3 k (by omega) (by omega)]; exact e3 k hk (by omega)
theorem mvU_ef (a : Nat) : ∀ (n : Nat) (d : List Rw), a + n < d.length →
    (∀ k, k < n → gx (mvU a n d) (a + k) = gx d (a + k + 1)) ∧ gx (mvU a n d) (a + n) = gx d a ∧ ∀ k, k < d.length → (k < a ∨ a + n < k) → gx (mvU a n d) k = gx d k
  | 0, d, _ => ⟨fun k h => by omega, rfl, fun k _ _ => rfl⟩
  | n + 1, d, h => by
    obtain ⟨e1, e2, e3⟩ := mvU_ef a n d (by omega)
    have hl := mvU_len a n d
    unfold mvU
    generalize mvU a n d = e at *
    refine ⟨fun k hk => ?_, ?_, fun k hk ho => ?_⟩
    · rw [gx_swp _ _ _ _ (by omega) (by omega) (by omega), if_neg (by omega)]
      by_cases hkn : k = n
      · rw [hkn, if_pos rfl]; exact e3 _ (by omega) (by omega)
      · rw [if_neg (by omega)]; exact e1 k (by omega)
    · rw [gx_swp _ _ _ _ (by omega) (by omega) (by omega), if_pos (by omega)]; exact e2
    · rw [gx_swp _ _ _ _ (by omega) (by omega) (by omega), if_neg (by omega), if_neg (by omega)]; exact e3 k hk (by omega)
theorem mvD_ef (m : Nat) : ∀ (n : Nat) (d : List Rw), n ≤ m → m < d.length →
    gx (mvD m n d) (m - n) = gx d m ∧ (∀ k, k < n → gx (mvD m n d) (m - n + 1 + k) = gx d (m - n + k)) ∧ ∀ k, k < d.length → (k < m - n ∨ m < k) → gx (mvD m n d) k = gx d k
  | 0, d, _, _ => ⟨rfl, fun k h => by omega, fun k _ _ => rfl⟩
  | n + 1, d, h1, h2 => by
    obtain ⟨e1, e2, e3⟩ := mvD_ef m n d (by omega) h2
    have hl := mvD_len m n d
    unfold mvD
    generalize mvD m n d = e at *
    refine ⟨?_, fun k hk => ?_, fun k hk ho => ?_⟩
    · rw [gx_swp _ _ _ _ (by omega) (by omega) (by omega), if_pos (by omega)]; exact e1
    · rw [gx_swp _ _ _ _ (by omega) (by omega) (by omega), if_neg (by omega)]
      by_cases hk0 : k = 0
      · subst hk0
        rw [if_pos (by omega), e3 (m - n - 1) (by omega) (by omega)]
        congr 1
      · rw [if_neg (by omega)]
        have := e2 (k - 1) (by omega)
        rw [show m - n + 1 + (k - 1) = m - (n + 1) + 1 + k by omega, show m - n + (k - 1) = m - (n + 1) + k by omega] at this
        exact this
    · rw [gx_swp _ _ _ _ (by omega) (by omega) (by omega), if_neg (by omega), if_neg (by omega)]; exact e3 k hk (by omega)
theorem bsF_ef (P : Nat → Bool) : ∀ (f i j : Nat), i ≤ j → j - i ≤ f → (bsF P f i j = i ∨ (i < bsF P f i j ∧ P (bsF P f i j - 1) = true)) ∧ (bsF P f i j = j ∨ (bsF P f i j < j ∧ P (bsF P f i j) = false))
  | 0, i, j, h1, h2 => ⟨.inl rfl, .inl (by show i = j; omega)⟩
  | f + 1, i, j, h1, h2 => by
    unfold bsF
    split
    · rename_i hij
      split
      · rename_i hp
        have hb := bsF_bd P f ((i + j) / 2 + 1) j (by omega)
        obtain ⟨h3, h4⟩ := bsF_ef P f ((i + j) / 2 + 1) j (by omega) (by omega)
        refine ⟨.inr ⟨by omega, ?_⟩, h4⟩
        rcases h3 with h3 | h3
        · rw [h3]; exact hp
        · exact h3.2
      · rename_i hp
        have hb := bsF_bd P f i ((i + j) / 2) (by omega)
        obtain ⟨h3, h4⟩ := bsF_ef P f i ((i + j) / 2) (by omega) (by omega)
        refine ⟨h3, .inr ⟨by omega, ?_⟩⟩
        rcases h4 with h4 | h4
        · rw [h4]; simpa using hp
        · exact h4.2
    · exact ⟨.inl rfl, .inl (by omega)⟩
theorem one_up {d : List Rw} {a m b : Nat} (h1 : m = a + 1) (h2 : m < b) (h3 : b ≤ d.length) (hs : Sg d m b) : Sg (mvU a (bsF (fun h => ltR (gx d h) (gx d a)) (b - m) m b - 1 - a) d) a b ∧ Sd d (mvU a (bsF (fun h => ltR (gx d h) (gx d a)) (b - m) m b - 1 - a) d) a b := by
  have hb := bsF_bd (fun h => ltR (gx d h) (gx d a)) (b - m) m b (by omega)
  obtain ⟨q1, q2⟩ := bsF_ef (fun h => ltR (gx d h) (gx d a)) (b - m) m b (by omega) (Nat.le_refl _)
  generalize bsF (fun h => ltR (gx d h) (gx d a)) (b - m) m b = r at *
  have hL : ∀ k, m ≤ k → k < r → leR (gx d k) (gx d a) := fun k k1 k2 => by
    rcases q1 with q1 | q1
    · omega
    · have hx := le_of_lt q1.2
      by_cases hk : k = r - 1
      · rw [hk]; exact hx
      · exact leR_tr (hs k (r - 1) k1 (by omega) (by omega)) hx
  have hR : ∀ k, r ≤ k → k < b → leR (gx d a) (gx d k) := fun k k1 k2 => by
    rcases q2 with q2 | q2
    · omega
    · have hx := le_of_not q2.2
      by_cases hk : k = r
      · rw [hk]; exact hx
      · exact leR_tr hx (hs r k (by omega) (by omega) k2)
  obtain ⟨n, hn⟩ : ∃ n, r - 1 - a = n := ⟨_, rfl⟩
  rw [hn]
  obtain ⟨e1, e2, e3⟩ := mvU_ef a n d (by omega)
  have hl := mvU_len a n d
  generalize mvU a n d = e at *
  have v1 : ∀ k, a ≤ k → k < a + n → gx e k = gx d (k + 1) := fun k k1 k2 => by
    have := e1 (k - a) (by omega)
    rw [show a + (k - a) = k by omega] at this
    exact this
  refine ⟨fun i j i1 ij j2 => ?_, hl, fun k hk ho => e3 k hk (by omega), fun P hP k k1 k2 => ?_⟩
  · by_cases hi : i < a + n
    · rw [v1 i i1 hi]
      by_cases hj : j < a + n
      · rw [v1 j (by omega) hj]; exact hs _ _ (by omega) (by omega) (by omega)
      · by_cases hj2 : j = a + n
        · rw [hj2, e2]; exact hL _ (by omega) (by omega)
        · rw [e3 j (by omega) (by omega)]; exact hs _ _ (by omega) (by omega) (by omega)
    · by_cases hi2 : i = a + n
      · rw [hi2, e2, e3 j (by omega) (by omega)]; exact hR _ (by omega) (by omega)
      · rw [e3 i (by omega) (by omega), e3 j (by omega) (by omega)]; exact hs _ _ (by omega) (by omega) (by omega)
  · by_cases hi : k < a + n
    · rw [v1 k k1 hi]; exact hP _ (by omega) (by omega)
    · by_cases hi2 : k = a + n
      · rw [hi2, e2]; exact hP _ (by omega) (by omega)
      · rw [e3 k (by omega) (by omega)]; exact hP _ (by omega) (by omega)
theorem one_dn {d : List Rw} {a m b : Nat} (h1 : a < m) (h2 : b = m + 1) (h3 : b ≤ d.length) (hs : Sg d a m) : Sg (mvD m (m - bsF (fun h => !ltR (gx d m) (gx d h)) (m - a) a m) d) a b ∧ Sd d (mvD m (m - bsF (fun h => !ltR (gx d m) (gx d h)) (m - a) a m) d) a b := by
  have hb := bsF_bd (fun h => !ltR (gx d m) (gx d h)) (m - a) a m (by omega)
  obtain ⟨q1, q2⟩ := bsF_ef (fun h => !ltR (gx d m) (gx d h)) (m - a) a m (by omega) (Nat.le_refl _)
  generalize bsF (fun h => !ltR (gx d m) (gx d h)) (m - a) a m = r at *
  have hL : ∀ k, a ≤ k → k < r → leR (gx d k) (gx d m) := fun k k1 k2 => by
    rcases q1 with q1 | q1
    · omega
    · have hx := le_of_not (by simpa using q1.2 : ltR (gx d m) (gx d (r - 1)) = false)
      by_cases hk : k = r - 1
      · rw [hk]; exact hx
      · exact leR_tr (hs k (r - 1) k1 (by omega) (by omega)) hx
  have hR : ∀ k, r ≤ k → k < m → leR (gx d m) (gx d k) := fun k k1 k2 => by
    rcases q2 with q2 | q2
    · omega
    · have hx := le_of_lt (by simpa using q2.2 : ltR (gx d m) (gx d r) = true)
      by_cases hk : k = r
      · rw [hk]; exact hx
      · exact leR_tr hx (hs r k (by omega) (by omega) k2)
  obtain ⟨n, hn⟩ : ∃ n, m - r = n := ⟨_, rfl⟩
  rw [hn]
  obtain ⟨e1, e2, e3⟩ := mvD_ef m n d (by omega) (by omega)
  have hl := mvD_len m n d
  generalize mvD m n d = e at *
  have v0 : gx e r = gx d m := by rw [← e1]; congr 1; omega
  have v1 : ∀ k, r < k → k ≤ m → gx e k = gx d (k - 1) := fun k k1 k2 => by
    have := e2 (k - r - 1) (by omega)
    rw [show m - n + 1 + (k - r - 1) = k by omega, show m - n + (k - r - 1) = k - 1 by omega] at this
    exact this
  refine ⟨fun i j i1 ij j2 => ?_, hl, fun k hk ho => e3 k hk (by omega), fun P hP k k1 k2 => ?_⟩
  · by_cases hi : i < r
    · rw [e3 i (by omega) (by omega)]
      by_cases hj : j < r
      · rw [e3 j (by omega) (by omega)]; exact hs _ _ (by omega) (by omega) (by omega)
      · by_cases hj2 : j = r
        · rw [hj2, v0]; exact hL _ (by omega) (by omega)
        · rw [v1 j (by omega) (by omega)]; exact hs _ _ (by omega) (by omega) (by omega)
    · by_cases hi2 : i = r
      · rw [hi2, v0, v1 j (by omega) (by omega)]; exact hR _ (by omega) (by omega)
      · rw [v1 i (by omega) (by omega), v1 j (by omega) (by omega)]; exact hs _ _ (by omega) (by omega) (by omega)
  · by_cases hi : k < r
    · rw [e3 k (by omega) (by omega)]; exact hP _ (by omega) (by omega)
    · by_cases hi2 : k = r
      · rw [hi2, v0]; exact hP _ (by omega) (by omega)
      · rw [v1 k (by omega) (by omega)]; exact hP _ (by omega) (by omega)
/-- merging two parts that stand in order -/
theorem symF_sg : ∀ (f : Nat) (d : List Rw) (a m b : Nat), a < m → m < b → b ≤ d.length → b - a ≤ f → Sg d a m → Sg d m b → Sg (symF f d a m b) a b ∧ Sd d (symF f d a m b) a b
  | 0, d, a, m, b, h1, h2, _, h4, _, _ => by omega
  | f + 1, d, a, m, b, h1, h2, h3, h4, hs1, hs2 => by
    unfold symF
    split
    · exact one_up (by omega) h2 h3 hs2
    · split
      · exact one_dn h1 (by omega) h3 hs1
      · simp only
        obtain ⟨M, hM⟩ : ∃ x, (a + b) / 2 = x := ⟨_, rfl⟩
        rw [hM]
        have hs := syS_bd d a m b M h1 h2 hM.symm
        -- where the halving stopped
        have hq : (∀ i, i < syS d a m b M → a ≤ i → ∀ j, M + m - syS d a m b M ≤ j → j < b → leR (gx d i) (gx d j)) ∧ (∀ i, m ≤ i → i < M + m - syS d a m b M → ∀ j, syS d a m b M ≤ j → j < m → leR (gx d i) (gx d j)) ∧ a ≤ syS d a m b M ∧ syS d a m b M ≤ M := by
          unfold syS at hs ⊢
          obtain ⟨S0, e0⟩ : ∃ x, sy0 m b M a = x := ⟨_, rfl⟩
          obtain ⟨S1, e1⟩ : ∃ x, sy1 m M = x := ⟨_, rfl⟩
          rw [e0, e1] at hs ⊢
          have hS : S0 ≤ S1 ∧ a ≤ S0 ∧ S1 ≤ M ∧ S1 ≤ m ∧ (S0 = a ∨ S0 + b = M + m) ∧ (S1 = M ∨ S1 = m) := by
            rw [← e0, ← e1]; unfold sy0 sy1; split <;> omega
          have hb := bsF_bd (fun c => !ltR (gx d (M + m - 1 - c)) (gx d c)) (S1 - S0) S0 S1 hS.1
          obtain ⟨q1, q2⟩ := bsF_ef (fun c => !ltR (gx d (M + m - 1 - c)) (gx d c)) (S1 - S0) S0 S1 hS.1 (Nat.le_refl _)
          generalize bsF (fun c => !ltR (gx d (M + m - 1 - c)) (gx d c)) (S1 - S0) S0 S1 = R at *
          refine ⟨fun i i1 i2 j j1 j2 => ?_, fun i i1 i2 j j1 j2 => ?_, by omega, by omega⟩
          · rcases q1 with q1 | q1
            · omega
            · have hx := le_of_not (by simpa using q1.2 : ltR (gx d (M + m - 1 - (R - 1))) (gx d (R - 1)) = false)
              rw [show M + m - 1 - (R - 1) = M + m - R by omega] at hx
              have y1 : leR (gx d i) (gx d (R - 1)) := by
                by_cases hi : i = R - 1
                · rw [hi]; exact leR_rf _
                · exact hs1 _ _ i2 (by omega) (by omega)
              have y2 : leR (gx d (M + m - R)) (gx d j) := by
                by_cases hj : j = M + m - R
                · rw [hj]; exact leR_rf _
                · exact hs2 _ _ (by omega) (by omega) j2
              exact leR_tr y1 (leR_tr hx y2)
          · rcases q2 with q2 | q2
            · omega
            · have hx := le_of_lt (by simpa using q2.2 : ltR (gx d (M + m - 1 - R)) (gx d R) = true)
              have y1 : leR (gx d i) (gx d (M + m - 1 - R)) := by
                by_cases hi : i = M + m - 1 - R
                · rw [hi]; exact leR_rf _
                · exact hs2 _ _ i1 (by omega) (by omega)
              have y2 : leR (gx d R) (gx d j) := by
                by_cases hj : j = R
                · rw [hj]; exact leR_rf _
                · exact hs1 _ _ (by omega) (by omega) j2
              exact leR_tr y1 (leR_tr hx y2)
        generalize syS d a m b M = R at *
        obtain ⟨E, hE⟩ : ∃ E, M + m - R = E := ⟨_, rfl⟩
        rw [hE] at hs hq ⊢
        obtain ⟨hq1, hq2, hq3, hq4⟩ := hq
        -- the rotation
        have hrot : ∃ d1, (if R < m ∧ m < E then rotF m (E - R) (m - R) (E - m) d else d) = d1 ∧ d1.length = d.length ∧ (∀ k, R ≤ k → k < M → gx d1 k = gx d (m + (k - R))) ∧ (∀ k, M ≤ k → k < E → gx d1 k = gx d (R + (k - M))) ∧ ∀ k, k < d.length → (k < R ∨ E ≤ k) → gx d1 k = gx d k := by
          refine ⟨_, rfl, ?_⟩
          split
          · rename_i hc
            obtain ⟨f1, f2, f3⟩ := rotF_ef m (E - R) (m - R) (E - m) d (by omega) (by omega) (by omega) (by omega) (by omega)
            have hl := rotF_len m (E - R) (m - R) (E - m) d
            generalize rotF m (E - R) (m - R) (E - m) d = r at *
            refine ⟨hl, fun k k1 k2 => ?_, fun k k1 k2 => ?_, fun k hk ho => f3 k hk (by omega)⟩
            · have := f1 (k - R) (by omega)
              rw [show m - (m - R) + (k - R) = k by omega] at this
              exact this
            · have := f2 (k - M) (by omega)
              rw [show m - (m - R) + (E - m) + (k - M) = k by omega, show m - (m - R) + (k - M) = R + (k - M) by omega] at this
              exact this
          · rename_i hc
            refine ⟨rfl, fun k k1 k2 => ?_, fun k k1 k2 => ?_, fun k _ _ => rfl⟩
            · congr 1; omega
            · congr 1; omega
        obtain ⟨d1, hd1, l1, r1, r2, r3⟩ := hrot
        rw [hd1]
        have sd1 : Sd d d1 a b := ⟨l1, fun k hk ho => r3 k hk (by omega), fun P hP k k1 k2 => by
          by_cases c1 : k < R
          · rw [r3 k (by omega) (.inl c1)]; exact hP k k1 k2
          · by_cases c2 : k < M
            · rw [r1 k (by omega) c2]; exact hP _ (by omega) (by omega)
            · by_cases c3 : k < E
              · rw [r2 k (by omega) c3]; exact hP _ (by omega) (by omega)
              · rw [r3 k (by omega) (.inr (by omega))]; exact hP k k1 k2⟩
        have gL1 : Sg d1 a R := fun i j i1 ij j2 => by rw [r3 i (by omega) (.inl (by omega)), r3 j (by omega) (.inl j2)]; exact hs1 _ _ i1 ij (by omega)
        have gL2 : Sg d1 R M := fun i j i1 ij j2 => by rw [r1 i i1 (by omega), r1 j (by omega) j2]; exact hs2 _ _ (by omega) (by omega) (by omega)
        have gR1 : Sg d1 M E := fun i j i1 ij j2 => by rw [r2 i i1 (by omega), r2 j (by omega) j2]; exact hs1 _ _ (by omega) (by omega) (by omega)
        have gR2 : Sg d1 E b := fun i j i1 ij j2 => by rw [r3 i (by omega) (.inr i1), r3 j (by omega) (.inr (by omega))]; exact hs2 _ _ (by omega) (by omega) (by omega)
        have hcross : ∀ i, a ≤ i → i < M → ∀ j, M ≤ j → j < b → leR (gx d1 i) (gx d1 j) := fun i i1 i2 j j1 j2 => by
          by_cases ci : i < R
          · rw [r3 i (by omega) (.inl ci)]
            by_cases cj : j < E
            · rw [r2 j j1 cj]; exact hs1 _ _ i1 (by omega) (by omega)
            · rw [r3 j (by omega) (.inr (by omega))]; exact hq1 i ci i1 j (by omega) j2
          · rw [r1 i (by omega) i2]
            by_cases cj : j < E
            · rw [r2 j j1 cj]; exact hq2 _ (by omega) (by omega) _ (by omega) (by omega)
            · rw [r3 j (by omega) (.inr (by omega))]; exact hs2 _ _ (by omega) (by omega) j2
        have h2' : Sg (if a < R ∧ R < M then symF f d1 a R M else d1) a M ∧ Sd d1 (if a < R ∧ R < M then symF f d1 a R M else d1) a M := by
          split
          · rename_i hc
            exact symF_sg f d1 a R M hc.1 hc.2 (by omega) (by omega) gL1 gL2
          · rename_i hc
            refine ⟨fun i j i1 ij j2 => ?_, Sd.refl _ _ _⟩
            by_cases ha : a < R
            · exact gL1 i j i1 ij (by omega)
            · exact gL2 i j (by omega) ij j2
        generalize (if a < R ∧ R < M then symF f d1 a R M else d1) = d2 at *
        obtain ⟨g2, s2⟩ := h2'
        have l2 := s2.len
        have hk2 : ∀ k, k < d.length → M ≤ k → gx d2 k = gx d1 k := fun k hk hm => s2.out k (by omega) (.inr hm)
        have h3' : Sg (if M < E ∧ E < b then symF f d2 M E b else d2) M b ∧ Sd d2 (if M < E ∧ E < b then symF f d2 M E b else d2) M b := by
          have a1 : Sg d2 M E := fun i j i1 ij j2 => by rw [hk2 i (by omega) i1, hk2 j (by omega) (by omega)]; exact gR1 i j i1 ij j2
          have a2 : Sg d2 E b := fun i j i1 ij j2 => by rw [hk2 i (by omega) (by omega), hk2 j (by omega) (by omega)]; exact gR2 i j i1 ij j2
          split
          · rename_i hc
            exact symF_sg f d2 M E b hc.1 hc.2 (by omega) (by omega) a1 a2
          · rename_i hc
            refine ⟨fun i j i1 ij j2 => ?_, Sd.refl _ _ _⟩
            by_cases ha : M < E
            · exact a1 i j i1 ij (by omega)
            · exact a2 i j (by omega) ij j2
        generalize (if M < E ∧ E < b then symF f d2 M E b else d2) = d3 at *
        obtain ⟨g3, s3⟩ := h3'
        refine ⟨fun i j i1 ij j2 => ?_, (sd1.trans (s2.mono (Nat.le_refl _) (by omega) (by omega))).trans (s3.mono (by omega) (Nat.le_refl _) (by omega))⟩
        by_cases cj : j < M
        · rw [s3.out i (by omega) (.inl (by omega)), s3.out j (by omega) (.inl cj)]
          exact g2 i j i1 ij cj
        · by_cases ci : i < M
          · rw [s3.out i (by omega) (.inl ci)]
            refine s3.al (fun y => leR (gx d2 i) y) (fun k k1 k2 => ?_) j (by omega) j2
            rw [hk2 k (by omega) k1]
            exact s2.al (fun x => leR x (gx d1 k)) (fun q q1 q2 => hcross q q1 q2 k k1 k2) i i1 ci
          · exact g3 i j (by omega) ij j2
/-- what sorting gives stands in order -/
theorem stF_sg (d : List Rw) : Sg (stF d) 0 d.length := by
  unfold stF
  split
  · rcases Nat.eq_zero_or_pos d.length with h | h
    · intro i j _ _ hj; omega
    · have := insI_sg 0 (d.length - 1) d (by omega)
      rw [show 0 + (d.length - 1) + 1 = d.length by omega] at this
      exact this
  · have s1 := insI_sg 0 19 d (by omega)
    obtain ⟨e, he⟩ : ∃ e, insI 0 19 d = e := ⟨_, rfl⟩
    have hel : e.length = d.length := by rw [← he, insI_len]
    rw [he] at s1 ⊢
    have s2 := insI_sg 20 (d.length - 1 - 20) e (by omega)
    have t2 := insI_sd 20 (d.length - 1 - 20) e (by omega)
    have hl2 := insI_len 20 (d.length - 1 - 20) e
    generalize insI 20 (d.length - 1 - 20) e = g at *
    rw [show 20 + (d.length - 1 - 20) + 1 = d.length by omega] at s2
    refine (symF_sg d.length g 0 20 d.length (by omega) (by omega) (by omega) (by omega) (fun i j i1 ij j2 => ?_) s2).1
    rw [t2.out i (by omega) (.inl (by omega)), t2.out j (by omega) (.inl j2)]
    exact s1 i j i1 ij (by omega)
end Go.Proofs.YtacbhkmkknicoaaDoor
