/- lex.Words: one pass from the label: text. -/
import Derived.Test.YthmihhjpilpcpaaL4
import Derived.Deep.DeepCutAuto
namespace Go.Proofs.Ythmihhjpilpcpaa
open Go.RowKit
set_option linter.unusedVariables false
set_option maxHeartbeats 2000000 in
set_option maxRecDepth 100000 in
theorem pass_text_ok (s : ByteArray) (w wr : World) (hs : s.size ≤ 4096) (f : Nat → Value) (out : Value) (acc : List Lx.Tok) (k : Nat) (hk : k < s.size) (hI' : Hid (WInv w wr out acc))
    (t : Lx.Tk) (n : Nat) (hn : k + n ≤ s.size) (hn1 : 1 ≤ n) (hC' : Hid (Came s.data.toList (k + n) (acc ++ [⟨t, k⟩]))) (hacc : acc.length ≤ k)
    (t32 : ((s[k].toNat : Int) == 32) = false) (t9 : ((s[k].toNat : Int) == 9) = false) (t10 : ((s[k].toNat : Int) == 10) = false) (t13 : ((s[k].toNat : Int) == 13) = false)
    (hpre' : Hid (∀ W, Calls Try.prog 16 #[.string (s.extract k s.size), .string ⟨#[45, 45]⟩] W fun e w' => e = .returned (.bool false) ∧ W = w'))
    (hl : Lx.letterB s[k] = false) (hd : Lx.digitB s[k] = false) (t39 : ((s[k].toNat : Int) == 39) = true)
    (tk tn : Int) (tt : ByteArray) (ht : Hid (tkCells t k = #[.int .i64 tk, .string tt, .int .i64 tn, .int .i64 k]))
    (hcall' : Hid (∀ W, Calls Try.prog 23 #[.string (s.extract k s.size)] W fun e w' => e = .returned (.tuple #[.agg #[.int .i64 tk, .string tt, .int .i64 tn, .int .i64 0], .int .i64 n, .bool true]) ∧ Below W.heap.size W w')) :
    Code.wp Try.prog (restB 1) (LQ s w 1 k) (LFrame s w.heap.size out k f) wr := by
  obtain ⟨i0, hi, hz0, hz1, hz2⟩ := info_parts tok_info
  unfold LFrame
  conv => arg 2; whnf
  go_wp2_with fail
  refine (hpre'.out _).mono ?_; rintro e w' ⟨rfl, rfl⟩
  go_wp2_with fail
  refine (letter_any _ _).mono ?_; rintro e w' ⟨rfl, rfl⟩
  go_wp2_with fail
  refine (digit_any _ _).mono ?_; rintro e w' ⟨rfl, rfl⟩
  go_wp2_with fail
  refine (hcall'.out _).mono ?_; rintro e w' ⟨rfl, hb⟩
  have hI2 := hid (WInv.below hI'.out hb); obtain ⟨a0, a1, a2, a3, hblk⟩ := hI2.out.blk; obtain ⟨c0, c1, c2, c3, hf⟩ := blk4 hblk; have Hblk := hid hblk; clear hb hblk hpre' hcall'
  go_upto_region 22 with (fail)
  obtain ⟨W, hW⟩ : ∃ W, W = ((((w'.setCell ⟨w.heap.size, 0, none⟩ (.int .i64 tk)).setCell ⟨w.heap.size, 1, none⟩ (.string tt)).setCell ⟨w.heap.size, 2, none⟩ (.int .i64 tn)).setCell ⟨w.heap.size, 3, none⟩ (.int .i64 0)).setCell ⟨w.heap.size, 3, none⟩ (.int .i64 (k : Int)) := ⟨_, rfl⟩
  have hIW : WInv w W out acc := by rw [hW]; exact ((((hI2.out.set 0 _).set 1 _).set 2 _).set 3 _).set 3 _
  have hWb : W.heap[w.heap.size]? = some (.cells #[.int .i64 tk, .string tt, .int .i64 tn, .int .i64 (k : Int)] 29 (0, 0)) := by rw [hW]; exact stored4 Hblk.out _ _ _ _ _
  obtain ⟨e0, e1, e2, e3, _⟩ := blk4 hWb
  clear hWb
  rw [← hW]
  clear hW c0 c1 c2 c3 hf hI2
  have hsz := hIW.sz
  have hIW' := hid hIW; clear hIW
  go_wp2_with (at_builtin; refine wpList_append_own _ rfl _ _ 24 rfl (w.heap.size + 1) 29 i0 (.agg #[.int .i64 0, .string ⟨#[]⟩, .int .i64 0, .int .i64 0]) 4 40 Try.underlying24 hi hz0 hz1 hz2 rfl (by decide) _ _ _ rfl (hIW'.out.own.alloc _) ⟨W.heap.size, 0, none⟩ 1 1 [.int .i64 tk, .string tt, .int .i64 tn, .int .i64 (k : Int)] rfl rfl ?c1 ?c2 ?c3 ?c4 ?c5 ?_)
  case c1 => exact cell_one W _ 29 _ rfl
  case c2 => intro u hu; simp at hu; rcases hu with rfl | rfl | rfl | rfl <;> rfl
  case c3 => unfold maxLen; omega
  case c4 => omega
  case c5 => simp; omega
  intro v' w2 hown hg _
  have hI3 : WInv w w2 v' (acc ++ [⟨t, k⟩]) := hIW'.out.more (by rw [ht.out]; exact hown) hg
  have hI3' := hid hI3; clear hI3 hown hg
  go_wp2
  go_step3
  go_wp2
  exact goto1 (k + n) v' _ (.inl rfl) (by omega) (by omega) hI3'.out hC'.out rfl rfl rfl rfl rfl rfl
set_option maxHeartbeats 2000000 in
set_option maxRecDepth 100000 in
theorem pass_text_bad (s : ByteArray) (w wr : World) (hs : s.size ≤ 4096) (f : Nat → Value) (out : Value) (acc : List Lx.Tok) (k : Nat) (hk : k < s.size) (hI' : Hid (WInv w wr out acc))
    (hbad : Hid (Lx.lexAll s.data.toList = .bad k))
    (t32 : ((s[k].toNat : Int) == 32) = false) (t9 : ((s[k].toNat : Int) == 9) = false) (t10 : ((s[k].toNat : Int) == 10) = false) (t13 : ((s[k].toNat : Int) == 13) = false)
    (hpre' : Hid (∀ W, Calls Try.prog 16 #[.string (s.extract k s.size), .string ⟨#[45, 45]⟩] W fun e w' => e = .returned (.bool false) ∧ W = w'))
    (hl : Lx.letterB s[k] = false) (hd : Lx.digitB s[k] = false) (t39 : ((s[k].toNat : Int) == 39) = true)
    (hcall' : Hid (∀ W, Calls Try.prog 23 #[.string (s.extract k s.size)] W fun e w' => e = .returned (.tuple #[.agg #[.int .i64 0, .string ⟨#[]⟩, .int .i64 0, .int .i64 0], .int .i64 0, .bool false]) ∧ Below W.heap.size W w')) :
    Code.wp Try.prog (restB 1) (LQ s w 1 k) (LFrame s w.heap.size out k f) wr := by
  unfold LFrame
  conv => arg 2; whnf
  go_wp2_with fail
  refine (hpre'.out _).mono ?_; rintro e w' ⟨rfl, rfl⟩
  go_wp2_with fail
  refine (letter_any _ _).mono ?_; rintro e w' ⟨rfl, rfl⟩
  go_wp2_with fail
  refine (digit_any _ _).mono ?_; rintro e w' ⟨rfl, rfl⟩
  go_wp2_with fail
  refine (hcall'.out _).mono ?_; rintro e w' ⟨rfl, hb⟩
  have hI2 := hid (WInv.below hI'.out hb); obtain ⟨a0, a1, a2, a3, hblk⟩ := hI2.out.blk; obtain ⟨c0, c1, c2, c3, hf⟩ := blk4 hblk; have Hblk := hid hblk; clear hb hblk hpre' hcall'
  go_wp2
  show bodyPost Try.prog Try.f8 (WordsPost s.data.toList w) .ret _ _
  go_ret3
  refine ⟨?_, by rw [hbad.out]; rfl⟩
  exact ((((hI2.out.set 0 _).set 1 _).set 2 _).set 3 _).bel
end Go.Proofs.Ythmihhjpilpcpaa
