/- plain: what is read of one long word, one long number, of nothing but white. -/
import Derived.Test.YthmihhjpilpcpaaL2
import Derived.Test.YthmihhjpilpcpaaAw
namespace Go.Proofs.Ythmihhjpilpcpaa
open Go.RowKit
set_option linter.unusedVariables false
theorem runL_rep (p : UInt8 → Bool) (c : UInt8) (n : Nat) (r : List UInt8) (h : p c = true) (hr : Lx.runL p r = 0) : Lx.runL p (List.replicate n c ++ r) = n := by
  induction n with
  | zero => simpa using hr
  | succ n ih => simp [List.replicate_succ, Lx.runL, h, ih]
theorem remark_rep (n : Nat) (c : UInt8) (h : c.toNat ≠ 45) : Lx.remarkB (List.replicate n c) = false := by
  match n with
  | 0 => rfl
  | 1 => rfl
  | n + 2 => simp [List.replicate_succ, Lx.remarkB, h]
theorem runL_rep' (p : UInt8 → Bool) (c : UInt8) (n : Nat) (h : p c = true) : Lx.runL p (List.replicate n c) = n := by
  have := runL_rep p c n [] h rfl
  simpa using this
theorem qs (a : Nat) (h1 : 1 ≤ a) : Lx.lexAll (List.replicate a 81) = if a ≤ 32 then .good [⟨⟨1, List.replicate a 113, 0⟩, 0⟩, ⟨⟨5, [], 0⟩, a⟩] else .bad 0 := by
  obtain ⟨m, rfl⟩ : ∃ m, a = m + 1 := ⟨a - 1, by omega⟩
  have hlen : (List.replicate (m + 1) (81 : UInt8)).length = m + 1 := by simp
  have hrun := runL_rep' Lx.innerB 81 (m + 1) rfl
  have hb : Lx.blank1 ((List.replicate (m + 1) (81 : UInt8)).drop 0) = 0 := by
    have h := remark_rep (m + 1) 81 (by decide)
    rw [List.drop_zero]
    rw [List.replicate_succ] at h ⊢
    have hw : Lx.whiteB 81 = false := rfl
    simp [Lx.blank1, h, hw]
  have ho : Lx.oneTok ((List.replicate (m + 1) (81 : UInt8)).drop 0) = if m + 1 ≤ 32 then some (⟨1, List.replicate (m + 1) 113, 0⟩, m + 1) else none := by
    have hw : Lx.wordL (List.replicate (m + 1) (81 : UInt8)) = if m + 1 ≤ 32 then some (⟨1, List.replicate (m + 1) 113, 0⟩, m + 1) else none := by
      unfold Lx.wordL
      rw [hrun]
      have : (List.take (m + 1) (List.replicate (m + 1) (81 : UInt8))).map Lx.low = List.replicate (m + 1) 113 := by
        rw [List.take_of_length_le (by simp), List.map_replicate]; rfl
      dsimp only
      rw [this]
    rw [List.drop_zero, ← hw, List.replicate_succ]
    rfl
  have hc := came0 (List.replicate (m + 1) (81 : UInt8))
  by_cases h32 : m + 1 ≤ 32
  · rw [if_pos h32] at ho ⊢
    have := hc.tok (by omega) hb _ _ ho (by omega)
    rw [Nat.zero_add] at this
    have := Came.done (l := List.replicate (m + 1) (81 : UInt8)) (acc := [⟨⟨1, List.replicate (m + 1) 113, 0⟩, 0⟩]) (by rw [hlen]; exact this)
    rw [this, hlen]
    rfl
  · rw [if_neg h32] at ho ⊢
    exact hc.wrong (by omega) hb ho
theorem sps (c : Nat) : Lx.lexAll (List.replicate c 32) = .good [⟨⟨5, [], 0⟩, c⟩] := by
  have hlen : (List.replicate c (32 : UInt8)).length = c := by simp
  have key : ∀ k, k ≤ c → Came (List.replicate c (32 : UInt8)) k [] := by
    intro k
    induction k with
    | zero => intro _; exact came0 _
    | succ k ih =>
      intro h
      refine (ih (by omega)).skip (by omega) 1 ?_ (Nat.le_refl 1)
      obtain ⟨m, hm⟩ : ∃ m, c - k = m + 1 := ⟨c - k - 1, by omega⟩
      rw [List.drop_replicate, hm, List.replicate_succ]
      have hw : Lx.whiteB 32 = true := rfl
      simp [Lx.blank1, hw]
  have := Came.done (l := List.replicate c (32 : UInt8)) (acc := []) (by rw [hlen]; exact key c (Nat.le_refl _))
  rw [this, hlen]
  rfl
def V (b : Nat) : Nat := Lx.valOf 0 (List.replicate b 49)
theorem V_zero : V 0 = 0 := rfl
theorem V_succ (b : Nat) : V (b + 1) = 10 * V b + 1 := by
  unfold V
  rw [List.replicate_succ', valOf_snoc]
  rfl
theorem V_mono (b : Nat) (h : b ≤ 19) : V b ≤ 1111111111111111111 := by
  have h19 : V 19 = 1111111111111111111 := by simp [V_succ, V_zero]
  have : ∀ d, V b ≤ V (b + d) := by
    intro d
    induction d with
    | zero => exact Nat.le_refl _
    | succ d ih => rw [← Nat.add_assoc, V_succ]; omega
  have := this (19 - b)
  rw [show b + (19 - b) = 19 from by omega, h19] at this
  exact this
theorem nums (b : Nat) (h1 : 1 ≤ b) : Lx.lexAll (32 :: List.replicate b 49) = if b ≤ 19 then .good [⟨⟨2, [], V b⟩, 1⟩, ⟨⟨5, [], 0⟩, b + 1⟩] else .bad 1 := by
  obtain ⟨m, rfl⟩ : ∃ m, b = m + 1 := ⟨b - 1, by omega⟩
  have hlen : ((32 : UInt8) :: List.replicate (m + 1) 49).length = m + 1 + 1 := by simp
  have hrun := runL_rep' Lx.digitB 49 (m + 1) rfl
  have hc0 := came0 ((32 : UInt8) :: List.replicate (m + 1) 49)
  have hc := hc0.skip (by omega) 1 rfl (Nat.le_refl 1)
  have hb : Lx.blank1 (((32 : UInt8) :: List.replicate (m + 1) 49).drop (0 + 1)) = 0 := by
    have h := remark_rep (m + 1) 49 (by decide)
    rw [List.drop_succ_cons, List.drop_zero]
    rw [List.replicate_succ] at h ⊢
    have hw : Lx.whiteB 49 = false := rfl
    simp [Lx.blank1, h, hw]
  have ho : Lx.oneTok (((32 : UInt8) :: List.replicate (m + 1) 49).drop (0 + 1)) = if m + 1 ≤ 19 then some (⟨2, [], V (m + 1)⟩, m + 1) else none := by
    have hw : Lx.numberL (List.replicate (m + 1) (49 : UInt8)) = if m + 1 ≤ 19 then some (⟨2, [], V (m + 1)⟩, m + 1) else none := by
      unfold Lx.numberL
      rw [hrun]
      have e1 : List.take (m + 1) (List.replicate (m + 1) (49 : UInt8)) = List.replicate (m + 1) 49 := List.take_of_length_le (by simp)
      have e2 : List.drop (m + 1) (List.replicate (m + 1) (49 : UInt8)) = [] := List.drop_eq_nil_of_le (by simp)
      dsimp only
      rw [e1, e2]
      by_cases h : m + 1 ≤ 19
      · have hv := V_mono (m + 1) h
        unfold V at hv
        rw [if_pos h, if_pos ⟨h, rfl, by omega⟩]
        rfl
      · rw [if_neg h, if_neg (fun h' => h h'.1)]
    rw [List.drop_succ_cons, List.drop_zero, ← hw, List.replicate_succ]
    rfl
  by_cases h19 : m + 1 ≤ 19
  · rw [if_pos h19] at ho ⊢
    have := hc.tok (by omega) hb _ _ ho (by omega)
    rw [show 0 + 1 + (m + 1) = m + 1 + 1 from by omega] at this
    have := Came.done (l := (32 : UInt8) :: List.replicate (m + 1) 49) (acc := [⟨⟨2, [], V (m + 1)⟩, 1⟩]) (by rw [hlen]; exact this)
    rw [this, hlen]
    rfl
  · rw [if_neg h19] at ho ⊢
    exact hc.wrong (by omega) hb ho
end Go.Proofs.Ythmihhjpilpcpaa
