/- lex.Words: remarks, and the end. -/
import Derived.Test.YthmihhjpilpcpaaL4
namespace Go.Proofs.Ythmihhjpilpcpaa
open Go.RowKit
set_option linter.unusedVariables false
set_option maxHeartbeats 2000000 in
set_option maxRecDepth 100000 in
theorem pass_remark (s : ByteArray) (w wr : World) (hs : s.size ≤ 4096) (f : Nat → Value) (out : Value) (acc : List Lx.Tok) (k : Nat) (hk : k < s.size) (hI' : Hid (WInv w wr out acc)) (hC' : Hid (Came s.data.toList k acc))
    (t32 : ((s[k].toNat : Int) == 32) = false) (t9 : ((s[k].toNat : Int) == 9) = false) (t10 : ((s[k].toNat : Int) == 10) = false) (t13 : ((s[k].toNat : Int) == 13) = false)
    (hpre' : Hid (∀ W, Calls Try.prog 16 #[.string (s.extract k s.size), .string ⟨#[45, 45]⟩] W fun e w' => e = .returned (.bool true) ∧ W = w'))
    (hb1 : Hid (Lx.blank1 (s.data.toList.drop k) = Lx.runL Lx.noLine (s.data.toList.drop k))) (hb2 : Hid (1 ≤ Lx.runL Lx.noLine (s.data.toList.drop k))) :
    Code.wp Try.prog (restB 1) (LQ s w 1 k) (LFrame s w.heap.size out k f) wr := by
  unfold LFrame
  conv => arg 2; whnf
  go_wp2_with fail
  refine (hpre'.out _).mono ?_; rintro e w' ⟨rfl, rfl⟩
  go_wp2
  go_step3
  go_wp2
  exact goto2 hk hb1.out hb2.out out acc hI'.out hC'.out rfl rfl rfl rfl rfl rfl
set_option maxHeartbeats 2000000 in
set_option maxRecDepth 100000 in
theorem pass2 (s : ByteArray) (w wr : World) (hs : s.size ≤ 4096) (f : Nat → Value) (out : Value) (acc : List Lx.Tok) (k n : Nat) (hk : k < s.size) (hn : k + n ≤ s.size) (hn1 : 1 ≤ n) (hI' : Hid (WInv w wr out acc)) (hC' : Hid (Came s.data.toList (k + n) acc))
    (hrun' : Hid (∀ W, Calls Try.prog 18 #[.string (s.extract k s.size), .func (.func 25) #[] #[]] W fun e w' => e = .returned (.int .i64 (n : Int)) ∧ W = w')) :
    Code.wp Try.prog (restC 2) (LQ s w 2 k) (LFrame s w.heap.size out k f) wr := by
  unfold LFrame
  conv => arg 2; whnf
  go_wp2_with fail
  refine (hrun'.out _).mono ?_; rintro e w' ⟨rfl, rfl⟩
  go_wp2
  go_step3
  go_wp2
  exact goto1 (k + n) out acc (.inr rfl) (by omega) (by omega) hI'.out hC'.out rfl rfl rfl rfl rfl rfl
set_option maxHeartbeats 2000000 in
set_option maxRecDepth 100000 in
theorem pass0 (s : ByteArray) (w wr : World) (hs : s.size ≤ 4096) (f : Nat → Value) (out : Value) (acc : List Lx.Tok) (hacc : acc.length ≤ s.size) (hI' : Hid (WInv w wr out acc)) (hgood : Hid (Lx.lexAll s.data.toList = .good (acc ++ [⟨⟨5, [], 0⟩, s.size⟩]))) :
    Code.wp Try.prog (restC 0) (LQ s w 0 s.size) (LFrame s w.heap.size out s.size f) wr := by
  obtain ⟨i0, hi, hz0, hz1, hz2⟩ := info_parts tok_info
  have hsz := hI'.out.sz
  unfold LFrame
  conv => arg 2; whnf
  go_wp2_with (at_builtin; refine wpList_append_own _ rfl _ _ 24 rfl (w.heap.size + 1) 29 i0 (.agg #[.int .i64 0, .string ⟨#[]⟩, .int .i64 0, .int .i64 0]) 4 40 Try.underlying24 hi hz0 hz1 hz2 rfl (by decide) _ _ _ rfl (hI'.out.own.alloc _) ⟨wr.heap.size, 0, none⟩ 1 1 [.int .i64 5, .string ⟨#[]⟩, .int .i64 0, .int .i64 (s.size : Int)] rfl rfl ?c1 ?c2 ?c3 ?c4 ?c5 ?_)
  case c1 => exact cell_one wr _ 29 _ rfl
  case c2 => intro u hu; simp at hu; rcases hu with rfl | rfl | rfl | rfl <;> rfl
  case c3 => unfold maxLen; omega
  case c4 => omega
  case c5 => simp; omega
  intro v' w2 hown hg _
  have hI3 : WInv w w2 v' (acc ++ [⟨⟨5, [], 0⟩, s.size⟩]) := hI'.out.more hown hg
  obtain ⟨g, cap, cur, rfl, hgb, hgh, hnc, hcap, hcs, htk⟩ : ∃ g cap cur, v' = .slice (some ⟨g, 0, none⟩) (acc.length + 1) cap ∧ w.heap.size + 1 ≤ g ∧ w2.heap[g]? = some (.cells cur 29 (0, 0)) ∧ acc.length + 1 ≤ cap ∧ cap ≤ maxLen ∧ cur.size = cap * 4 ∧ cur.toList.take ((acc.length + 1) * 4) = toksCells acc ++ [.int .i64 5, .string ⟨#[]⟩, .int .i64 0, .int .i64 (s.size : Int)] := by
    rcases hown.2 with ⟨_, h0⟩ | ⟨g, cap, cur, h⟩
    · omega
    · exact ⟨g, cap, cur, h⟩
  have Hown := hid hown
  have Hg := hid hg
  have Htk := hid htk
  have HI3 := hid hI3
  have Hgh := hid hgh
  clear hown hg htk hI3 hgh
  unfold maxLen at hcap
  go_wp2
  show bodyPost Try.prog Try.f8 (WordsPost s.data.toList w) .ret _ _
  go_ret3
  refine ⟨HI3.out.bel, ?_⟩
  rw [hgood.out]
  refine ⟨g, by omega, ?_, ?_⟩
  · simp
  · intro j u hu
    rw [toksCells_snoc] at hu
    have := (World.ownsRow.cells HI3.out.own (g := g) rfl) j u (by rw [toksCells_snoc]; exact hu)
    rw [add0] at this
    exact this
end Go.Proofs.Ythmihhjpilpcpaa
