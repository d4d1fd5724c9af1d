/- value.typed over a row of values. -/
import Derived.Test.YtefdkpfndjlpgaaDoorW1
namespace Go.Proofs.YtefdkpfndjlpgaaDoor
open Go.RowKit
set_option linter.unusedSimpArgs false
/-- what typed tells of a row of values: all null or of a kind? is one null? -/
def typedFrom (kind : Int) : List V → Bool → Bool × Bool
  | [], nl => (true, nl)
  | v :: r, nl => if v.t == kind || v.t == 0 then typedFrom kind r (nl || v.t == 0) else (false, false)
def typedB (kind : Int) (l : List V) : Bool × Bool := typedFrom kind l false
set_option maxHeartbeats 1000000 in
set_option maxRecDepth 100000 in
theorem typed_any (kind : Int) (l : List V) (g c : Nat) (w : World) (hl : l.length ≤ 4611686018427387904) (hrow : VRow w g l) :
    Calls Tryd.prog 33 #[.int .i64 kind, .slice (some ⟨g, 0, none⟩) l.length c] w fun e w' => e = .returned (.tuple #[.bool (typedB kind l).1, .bool (typedB kind l).2]) ∧ Gr w w' := by
  go_enter Tryd.func33, Tryd.ntmps33
  go_wp2
  go_loopw [5, 10] (fun nl i wr => ∃ (k : Nat) (nb : Bool), i = .int .i64 k ∧ nl = .bool nb ∧ k ≤ l.length ∧ Hid (typedB kind l = typedFrom kind (l.drop k) nb) ∧ Gr w wr) (fun _ i _ => l.length - (intOf i).toNat)
  case atStart => exact ⟨0, false, rfl, rfl, Nat.zero_le _, hid rfl, Gr.refl _⟩
  case round =>
    obtain ⟨k, nb, rfl, rfl, hk, H, hg⟩ := hrel
    by_cases hlt : k < l.length
    · obtain ⟨v, hv⟩ : ∃ v, v = l[k] := ⟨_, rfl⟩
      have hd : l.drop k = v :: l.drop (k + 1) := by rw [hv]; exact List.drop_eq_getElem_cons hlt
      have c0 : _ = some (Value.int .i64 v.t) := hg.keep (hrow k 0 _ hlt (by rw [← hv]; rfl))
      have c1 : _ = some (Value.int .i64 v.n) := hg.keep (hrow k 1 _ hlt (by rw [← hv]; rfl))
      have c2 : _ = some (Value.string v.s) := hg.keep (hrow k 2 _ hlt (by rw [← hv]; rfl))
      have c3 : _ = some (Value.bool v.b) := hg.keep (hrow k 3 _ hlt (by rw [← hv]; rfl))
      simp only [Nat.add_zero] at c0
      clear hv
      have HH := H.out
      rw [hd] at HH
      simp only [typedFrom] at HH
      clear hd H
      obtain ⟨x, n, s, b⟩ := v
      simp only at c0 c1 c2 c3 HH
      obtain ⟨b1, t1⟩ : ∃ b, (x == kind) = b := ⟨_, rfl⟩
      obtain ⟨b2, t2⟩ : ∃ b, (x == 0) = b := ⟨_, rfl⟩
      rw [t1, t2] at HH
      have n1 : (x != kind) = !b1 := by rw [← t1]; rfl
      have n2 : (x != 0) = !b2 := by rw [← t2]; rfl
      cases b1 <;> cases b2 <;> cases nb
      all_goals
        simp only [Bool.or_self, Bool.or_true, Bool.true_or, Bool.or_false, Bool.false_or, if_true, Bool.false_eq_true, if_false, Bool.not_true, Bool.not_false] at HH n1 n2
        have H := hid HH
        clear HH
        go_wp2
        first
          | (go_returns; exact ⟨by rw [H.out]; rfl, hg.alloc _⟩)
          | (go_roundw
             case rel => exact ⟨k + 1, _, by go_num, rfl, by omega, H, hg.alloc _⟩
             case measure => simp [intOf]; omega)
    · obtain rfl : k = l.length := by omega
      have HH := H.out
      rw [List.drop_length] at HH
      simp only [typedFrom] at HH
      have H := hid HH
      clear HH
      go_wp2
      go_returns
      exact ⟨by rw [H.out]; rfl, hg⟩
end Go.Proofs.YtefdkpfndjlpgaaDoor
