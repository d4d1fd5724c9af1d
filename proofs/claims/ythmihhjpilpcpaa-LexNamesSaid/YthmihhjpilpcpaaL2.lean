/- lex.Words: jumps and how far the reading has come. -/
import Derived.Test.YthmihhjpilpcpaaL1
namespace Go.Proofs.Ythmihhjpilpcpaa
open Go.RowKit
set_option linter.unusedVariables false
theorem drop_at (s : ByteArray) (k : Nat) (h : k < s.size) : s.data.toList.drop k = s[k] :: s.data.toList.drop (k + 1) :=
  List.drop_eq_getElem_cons (by simpa using h : k < s.data.toList.length)
/-- one step of the reading -/
theorem Came.skip {l : List UInt8} {k : Nat} {acc : List Lx.Tok} (h : Came l k acc) (hk : k < l.length) (n : Nat) (hb : Lx.blank1 (l.drop k) = n) (hn : 1 ≤ n) : Came l (k + n) acc := by
  obtain ⟨f, h1, h2, h3⟩ := h
  match f, h1, h2 with
  | 0, _, h2 => omega
  | f + 1, h1, h2 =>
    refine ⟨f, ?_, by omega, by omega⟩
    rw [← h1]
    have hne : l.drop k ≠ [] := by simp; exact hk
    rw [Lx.lexN]
    simp [hne, hb, show n ≠ 0 by omega]
theorem Came.tok {l : List UInt8} {k : Nat} {acc : List Lx.Tok} (h : Came l k acc) (hk : k < l.length) (hb : Lx.blank1 (l.drop k) = 0) (t : Lx.Tk) (n : Nat) (ht : Lx.oneTok (l.drop k) = some (t, n)) (hn : 1 ≤ n) : Came l (k + n) (acc ++ [⟨t, k⟩]) := by
  obtain ⟨f, h1, h2, h3⟩ := h
  match f, h1, h2 with
  | 0, _, h2 => omega
  | f + 1, h1, h2 =>
    refine ⟨f, ?_, by omega, by simp; omega⟩
    rw [← h1]
    have hne : l.drop k ≠ [] := by simp; exact hk
    rw [Lx.lexN]
    simp [hne, hb, ht]
theorem Came.wrong {l : List UInt8} {k : Nat} {acc : List Lx.Tok} (h : Came l k acc) (hk : k < l.length) (hb : Lx.blank1 (l.drop k) = 0) (ht : Lx.oneTok (l.drop k) = none) : Lx.lexAll l = .bad k := by
  obtain ⟨f, h1, h2, h3⟩ := h
  match f, h1, h2 with
  | 0, _, h2 => omega
  | f + 1, h1, h2 =>
    rw [← h1]
    have hne : l.drop k ≠ [] := by simp; exact hk
    rw [Lx.lexN]
    simp [hne, hb, ht]
theorem Came.done {l : List UInt8} {acc : List Lx.Tok} (h : Came l l.length acc) : Lx.lexAll l = .good (acc ++ [⟨⟨5, [], 0⟩, l.length⟩]) := by
  obtain ⟨f, h1, h2, h3⟩ := h
  match f, h1, h2 with
  | 0, _, h2 => omega
  | f + 1, h1, h2 =>
    rw [← h1, Lx.lexN]
    simp
set_option maxRecDepth 100000
theorem Lmu1 {s : ByteArray} {a : Act} {w : World} {k : Nat} (h : a.tmps.getD 8 undef = .int .i64 (k : Int)) : Lmu s 1 a w = 2 * (s.size - k) + 2 := by
  unfold Lmu; rw [h]; rfl
theorem Lmu2 {s : ByteArray} {a : Act} {w : World} {k : Nat} (h : a.tmps.getD 8 undef = .int .i64 (k : Int)) : Lmu s 2 a w = 2 * (s.size - k) + 1 := by
  unfold Lmu; rw [h]; rfl
theorem Lmu0 {s : ByteArray} {a : Act} {w : World} : Lmu s 0 a w = 0 := rfl
theorem Lmu_ge {s : ByteArray} {lb k : Nat} {w : World} (hlb : lb = 1 ∨ lb = 2) : 2 * (s.size - k) + 1 ≤ Lmu s lb (LFrame s w.heap.size undef k fun _ => undef) w := by
  rcases hlb with rfl | rfl
  · rw [Lmu1 (k := k) rfl]; omega
  · rw [Lmu2 (k := k) rfl]; omega
section
variable {s : ByteArray} {w wr : World} {lb k k' : Nat} {out : Value} {acc : List Lx.Tok} {a : Act}
theorem goto1 (k' : Nat) (out : Value) (acc : List Lx.Tok) (hlb : lb = 1 ∨ lb = 2) (hk : k < k') (hk' : k' ≤ s.size) (hI : WInv w wr out acc) (hC : Came s.data.toList k' acc)
    (hd : a.defers = []) (hz : a.tmps.size = 130) (h0 : a.tmps.getD 0 undef = .string s) (h5 : a.tmps.getD 5 undef = out) (h6 : a.tmps.getD 6 undef = .pointer (some ⟨w.heap.size, 0, none⟩)) (h8 : a.tmps.getD 8 undef = .int .i64 (k' : Int)) : LQ s w lb k (.goto 1) a wr :=
  ⟨⟨_, out, k', acc, LFrame_of a hd hz h0 h5 h6 h8, hI, hC, hk', .inl rfl⟩, by
    rw [Lmu1 h8]
    rcases hlb with rfl | rfl
    · rw [Lmu1 (k := k) rfl]; omega
    · rw [Lmu2 (k := k) rfl]; omega⟩
theorem goto2 (hk' : k < s.size) (hb : Lx.blank1 (s.data.toList.drop k) = Lx.runL Lx.noLine (s.data.toList.drop k)) (hb1 : 1 ≤ Lx.runL Lx.noLine (s.data.toList.drop k)) (out : Value) (acc : List Lx.Tok) (hI : WInv w wr out acc) (hC : Came s.data.toList k acc)
    (hd : a.defers = []) (hz : a.tmps.size = 130) (h0 : a.tmps.getD 0 undef = .string s) (h5 : a.tmps.getD 5 undef = out) (h6 : a.tmps.getD 6 undef = .pointer (some ⟨w.heap.size, 0, none⟩)) (h8 : a.tmps.getD 8 undef = .int .i64 (k : Int)) : LQ s w 1 k (.goto 2) a wr :=
  ⟨⟨_, out, k, acc, LFrame_of a hd hz h0 h5 h6 h8, hI, hC, by omega, .inr (.inl ⟨rfl, hk', hb, hb1⟩)⟩, by
    rw [Lmu2 h8, Lmu1 (k := k) rfl]; omega⟩
theorem goto0 (out : Value) (acc : List Lx.Tok) (hI : WInv w wr out acc) (hC : Came s.data.toList s.size acc)
    (hd : a.defers = []) (hz : a.tmps.size = 130) (h0 : a.tmps.getD 0 undef = .string s) (h5 : a.tmps.getD 5 undef = out) (h6 : a.tmps.getD 6 undef = .pointer (some ⟨w.heap.size, 0, none⟩)) (h8 : a.tmps.getD 8 undef = .int .i64 (s.size : Int)) : LQ s w 1 s.size (.goto 0) a wr :=
  ⟨⟨_, out, s.size, acc, LFrame_of a hd hz h0 h5 h6 h8, hI, hC, Nat.le_refl _, .inr (.inr ⟨rfl, rfl⟩)⟩, by
    rw [Lmu0, Lmu1 (k := s.size) rfl]; omega⟩
end
set_option maxHeartbeats 1000000 in
set_option maxRecDepth 100000 in
theorem pass_end (s : ByteArray) (w wr : World) (hs : s.size ≤ 4096) (f : Nat → Value) (out : Value) (acc : List Lx.Tok) (hI : WInv w wr out acc) (hC : Came s.data.toList s.size acc) :
    Code.wp Try.prog (restB 1) (LQ s w 1 s.size) (LFrame s w.heap.size out s.size f) wr := by
  have hI' := hid hI; clear hI
  have hC' := hid hC; clear hC
  unfold LFrame
  conv => arg 2; whnf
  go_wp2
  go_step3
  go_wp2
  exact goto0 out acc hI'.out hC'.out rfl rfl rfl rfl rfl rfl
end Go.Proofs.Ythmihhjpilpcpaa
