/- lex.Words: white. -/
import Derived.Test.YthmihhjpilpcpaaL2
namespace Go.Proofs.Ythmihhjpilpcpaa
open Go.RowKit
set_option linter.unusedVariables false
theorem blank_white (s : ByteArray) (k : Nat) (hk : k < s.size) (hw : Lx.whiteB s[k] = true) : Lx.blank1 (s.data.toList.drop k) = 1 := by
  rw [drop_at s k hk]; simp [Lx.blank1, hw]
set_option maxHeartbeats 1000000 in
set_option maxRecDepth 100000 in
theorem pass_whitea (s : ByteArray) (w wr : World) (hs : s.size ≤ 4096) (f : Nat → Value) (out : Value) (acc : List Lx.Tok) (k : Nat) (hk : k < s.size) (hI' : Hid (WInv w wr out acc)) (hC' : Hid (Came s.data.toList (k + 1) acc)) (t32 : ((s[k].toNat : Int) == 32) = true) :
    Code.wp Try.prog (restB 1) (LQ s w 1 k) (LFrame s w.heap.size out k f) wr := by
  unfold LFrame
  conv => arg 2; whnf
  go_wp2
  go_step3
  go_wp2
  exact goto1 (k + 1) out acc (.inl rfl) (by omega) (by omega) hI'.out hC'.out rfl rfl rfl rfl rfl rfl
set_option maxHeartbeats 1000000 in
set_option maxRecDepth 100000 in
theorem pass_whiteb (s : ByteArray) (w wr : World) (hs : s.size ≤ 4096) (f : Nat → Value) (out : Value) (acc : List Lx.Tok) (k : Nat) (hk : k < s.size) (hI' : Hid (WInv w wr out acc)) (hC' : Hid (Came s.data.toList (k + 1) acc)) (t32 : ((s[k].toNat : Int) == 32) = false) (t9 : ((s[k].toNat : Int) == 9) = true) :
    Code.wp Try.prog (restB 1) (LQ s w 1 k) (LFrame s w.heap.size out k f) wr := by
  unfold LFrame
  conv => arg 2; whnf
  go_wp2
  go_step3
  go_wp2
  exact goto1 (k + 1) out acc (.inl rfl) (by omega) (by omega) hI'.out hC'.out rfl rfl rfl rfl rfl rfl
set_option maxHeartbeats 1000000 in
set_option maxRecDepth 100000 in
theorem pass_whitec (s : ByteArray) (w wr : World) (hs : s.size ≤ 4096) (f : Nat → Value) (out : Value) (acc : List Lx.Tok) (k : Nat) (hk : k < s.size) (hI' : Hid (WInv w wr out acc)) (hC' : Hid (Came s.data.toList (k + 1) acc)) (t32 : ((s[k].toNat : Int) == 32) = false) (t9 : ((s[k].toNat : Int) == 9) = false) (t10 : ((s[k].toNat : Int) == 10) = true) :
    Code.wp Try.prog (restB 1) (LQ s w 1 k) (LFrame s w.heap.size out k f) wr := by
  unfold LFrame
  conv => arg 2; whnf
  go_wp2
  go_step3
  go_wp2
  exact goto1 (k + 1) out acc (.inl rfl) (by omega) (by omega) hI'.out hC'.out rfl rfl rfl rfl rfl rfl
set_option maxHeartbeats 1000000 in
set_option maxRecDepth 100000 in
theorem pass_whited (s : ByteArray) (w wr : World) (hs : s.size ≤ 4096) (f : Nat → Value) (out : Value) (acc : List Lx.Tok) (k : Nat) (hk : k < s.size) (hI' : Hid (WInv w wr out acc)) (hC' : Hid (Came s.data.toList (k + 1) acc)) (t32 : ((s[k].toNat : Int) == 32) = false) (t9 : ((s[k].toNat : Int) == 9) = false) (t10 : ((s[k].toNat : Int) == 10) = false) (t13 : ((s[k].toNat : Int) == 13) = true) :
    Code.wp Try.prog (restB 1) (LQ s w 1 k) (LFrame s w.heap.size out k f) wr := by
  unfold LFrame
  conv => arg 2; whnf
  go_wp2
  go_step3
  go_wp2
  exact goto1 (k + 1) out acc (.inl rfl) (by omega) (by omega) hI'.out hC'.out rfl rfl rfl rfl rfl rfl
end Go.Proofs.Ythmihhjpilpcpaa
