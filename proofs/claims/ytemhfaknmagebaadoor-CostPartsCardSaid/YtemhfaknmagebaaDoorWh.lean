/- Whole: a number as its digits. -/
import Derived.Test.YtemhfaknmagebaaDoorKit
import Derived.Lib.ItoaNum
import Derived.Lib.ItoaLen
import Derived.Laws.BytesString
namespace Go.Proofs.YtemhfaknmagebaaDoor
open Go.RowKit
set_option linter.unusedSimpArgs false
set_option linter.unusedVariables false
theorem one_byte (W : World) (b : Int) : (convert 60 9 (.slice (some ⟨W.heap.size, 0, none⟩) 1 1)).run Tryd.prog (W.alloc (.cells #[.int .u8 b] 5)) = .ok (.string ⟨#[UInt8.ofNat b.toNat]⟩) (W.alloc (.cells #[.int .u8 b] 5)) := by
  rw [run_convert_bytes_string _ 60 9 5 _ _ _ Tryd.underlying60 Tryd.underlying5 Tryd.underlying9]
  rw [run_bytesToString _ _ 1 1 [b]]
  · rfl
  · rw [run_loadCells _ _ 1 (fun _ => .int .u8 b)]
    · rfl
    · intro j hj
      obtain rfl : j = 0 := by omega
      go_simp
theorem app_one (c : UInt8) (l : List UInt8) : (⟨#[c]⟩ : ByteArray) ++ (⟨l.toArray⟩ : ByteArray) = ⟨(c :: l).toArray⟩ := by
  apply ByteArray.ext
  rw [ByteArray.data_append]
  simp
set_option maxHeartbeats 2000000 in
set_option maxRecDepth 100000 in
theorem whole_any (n : Nat) (w : World) (hn : n ≤ 9223372036854775807) :
    Calls Tryd.prog 23 #[.int .i64 n] w fun e w' => e = .returned (.string ⟨(Lib.decDigits n).toArray⟩) ∧ Gr w w' := by
  have h0 : decide ((n : Int) < 0) = false := by simp
  have hu : IntKind.u64.wrap (n : Int) = n := by rw [IntKind.wrap_u64]; omega
  go_enter Tryd.func23, Tryd.ntmps23
  go_wp2_with fail
  go_loopw [3, 4] (fun u s wr => ∃ (k : Nat) (l : List UInt8), u = .int .u64 k ∧ s = .string ⟨l.toArray⟩ ∧ k ≤ n ∧ Hid (Lib.decDigits n = Lib.decDigits k ++ l) ∧ Gr w wr) (fun u _ _ => (intOf u).toNat)
  case atStart => exact ⟨n, [], rfl, rfl, Nat.le_refl _, hid (by simp), Gr.refl _⟩
  case round =>
    obtain ⟨k, l, rfl, rfl, hk, H, hg⟩ := hrel
    have hll : l.length < 100 := by
      have h1 := congrArg List.length H.out
      rw [List.length_append, Lib.decDigits_length] at h1
      have := Lib.nDigits_le20 n (by omega)
      omega
    have of8 : ∀ q : Nat, UInt8.ofNat (48 + q) = 48 + UInt8.ofNat q := fun q => by rw [UInt8.ofNat_add]; rfl
    by_cases hlt : 9 < k
    · have t1 : decide ((9 : Int) < k) = true := by simp; omega
      have O1 := fun W => one_byte W (48 + (k : Int) % 10)
      have A1 := app_one (48 + UInt8.ofNat (k % 10)) l
      have H2 : Hid (Lib.decDigits n = Lib.decDigits (k / 10) ++ ((48 + UInt8.ofNat (k % 10)) :: l)) := hid (by
        rw [H.out, Lib.decDigits, dif_neg (by omega), of8, List.append_assoc]; rfl)
      clear of8 H
      go_wp2
      exact ⟨⟨k / 10, _, by go_num, rfl, by omega, H2, hg.alloc _⟩, by simp [intOf]; omega⟩
    · have t1 : decide ((9 : Int) < k) = false := by simp; omega
      have O1 := fun W => one_byte W (48 + (k : Int))
      have A1 := app_one (48 + UInt8.ofNat k) l
      have H2 : Hid (Lib.decDigits n = (48 + UInt8.ofNat k) :: l) := hid (by
        rw [H.out, Lib.decDigits, dif_pos (by omega), of8]; rfl)
      clear of8 H
      go_wp2
      go_ret
      exact ⟨by rw [H2.out]; rfl, hg.alloc _⟩
end Go.Proofs.YtemhfaknmagebaaDoor
