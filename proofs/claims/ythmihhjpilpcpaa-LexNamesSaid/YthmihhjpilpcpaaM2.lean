/- lex.Words: whole. -/
import Derived.Test.YthmihhjpilpcpaaM1
namespace Go.Proofs.Ythmihhjpilpcpaa
open Go.RowKit
set_option linter.unusedVariables false
set_option maxRecDepth 100000 in
theorem LQ_of {s : ByteArray} {w : World} {lb k : Nat} {a : Act} {wr : World} (ha : a.tmps.getD 8 undef = .int .i64 (k : Int)) : ∀ e a' w', LQ s w lb k e a' w' →
    Exit.jumps (fun l' a' w' => LJ s w l' a' w' ∧ Lmu s l' a' w' < Lmu s lb a wr) (bodyPost Try.prog Try.f8 (WordsPost s.data.toList w)) e a' w' := by
  intro e a' w' h
  cases e with
  | goto l =>
    obtain ⟨h1, h2⟩ := h
    refine ⟨h1, Nat.lt_of_lt_of_le h2 ?_⟩
    unfold Lmu
    rw [ha]
    exact Nat.le_refl _
  | _ => exact h
theorem pass1_at (s : ByteArray) (w wr : World) (out : Value) (acc : List Lx.Tok) (k : Nat) (hs : s.size ≤ 4096) (hk : k ≤ s.size) (hI : WInv w wr out acc) (hC : Came s.data.toList k acc) (a : Act)
    (hd : a.defers = []) (hz : a.tmps.size = 130) (h0 : a.tmps.getD 0 undef = .string s) (h5 : a.tmps.getD 5 undef = out) (h6 : a.tmps.getD 6 undef = .pointer (some ⟨w.heap.size, 0, none⟩)) (h8 : a.tmps.getD 8 undef = .int .i64 (k : Int)) :
    Code.wp Try.prog (restB 1) (LQ s w 1 k) a wr := by
  rw [LFrame_of a hd hz h0 h5 h6 h8]
  exact pass1 s w wr _ out acc k hs hk hI hC
theorem LQ_first {s : ByteArray} {w : World} : ∀ e a' w', LQ s w 1 0 e a' w' → Exit.jumps (LJ s w) (bodyPost Try.prog Try.f8 (WordsPost s.data.toList w)) e a' w' := by
  intro e a' w' h
  cases e with
  | goto l => exact h.1
  | _ => exact h
theorem came0 (l : List UInt8) : Came l 0 [] := ⟨l.length + 1, rfl, by omega, by simp⟩
theorem winv0 (w : World) : WInv w (w.alloc (.cells #[.int .i64 0, .string ⟨#[]⟩, .int .i64 0, .int .i64 0] 29)) (.slice none 0 0) [] :=
  ⟨⟨rfl, .inl ⟨rfl, rfl⟩⟩, ⟨_, _, _, _, heap_new w _⟩, (Below.refl _ _).alloc (Nat.le_refl _) _, by simp⟩
set_option maxHeartbeats 1000000 in
set_option maxRecDepth 100000 in
theorem words_any (s : ByteArray) (w : World) (hs : s.size ≤ 4096) :
    Calls Try.prog 8 #[.string s] w (WordsPost s.data.toList w) := by
  have hd : decide ((4096 : Int) < (s.size : Int)) = false := by simp; omega
  go_enter Try.func8, Try.ntmps8
  go_wp2
  refine scope_jumps (LJ s w) (Lmu s) ?_ ?_
  · go_wp2
    go_step3
    go_step
    go_step
    exact Code.wp_mono LQ_first (pass1_at s w _ (.slice none 0 0) [] 0 hs (Nat.zero_le _) (winv0 w) (came0 _) _ rfl rfl rfl rfl rfl rfl)
  · intro l a wr hJ
    obtain ⟨f, out, k, acc, rfl, hI, hC, hk, h⟩ := hJ
    rcases h with rfl | ⟨rfl, hk', hb, hb1⟩ | ⟨rfl, rfl⟩
    · exact ⟨restC 1, find1, by rw [rest1]; exact wp_seq_k (fun _ hK => wp_skip (hK _ _ (Code.wp_mono (LQ_of rfl) (pass1 s w wr f out acc k hs hk hI hC))))⟩
    · have hl : k < s.data.toList.length := by simpa using hk'
      have hle : Lx.runL Lx.noLine (s.data.toList.drop k) ≤ s.size - k := by
        have := runL_le Lx.noLine (s.data.toList.drop k)
        simp at this; omega
      have hrun : ∀ W, Calls Try.prog 18 #[.string (s.extract k s.size), .func (.func 25) #[] #[]] W fun e w' => e = .returned (.int .i64 (Lx.runL Lx.noLine (s.data.toList.drop k) : Nat)) ∧ W = w' := fun W => by
        rw [← ext_list s k hk]
        exact run_noLine (s.extract k s.size) W (by rw [ext_size s k hk]; unfold maxLen; omega)
      exact ⟨restC 2, find2, Code.wp_mono (LQ_of rfl) (pass2 s w wr hs f out acc k _ hk' (by omega) hb1 hI (hC.skip hl _ hb hb1) hrun)⟩
    · have hacc : acc.length ≤ s.size := by obtain ⟨_, _, _, h⟩ := hC; exact h
      have hlen : s.data.toList.length = s.size := by simp
      have hg := Came.done (l := s.data.toList) (acc := acc) (by rw [hlen]; exact hC)
      rw [hlen] at hg
      exact ⟨restC 0, find0, Code.wp_mono (LQ_of rfl) (pass0 s w wr hs f out acc hacc hI hg)⟩
set_option maxHeartbeats 1000000 in
set_option maxRecDepth 100000 in
theorem words_long (s : ByteArray) (w : World) (hs : 4096 < s.size) (hm : s.size ≤ maxLen) :
    Calls Try.prog 8 #[.string s] w fun e w' => e = .returned (.tuple #[.slice none 0 0, .int .i64 2, .int .i64 0]) ∧ Below w.heap.size w w' := by
  have hd : decide ((4096 : Int) < (s.size : Int)) = true := by simp; omega
  go_enter Try.func8, Try.ntmps8
  go_wp2
  go_step3
  go_wp2
  rw [Exit.noGoto_ret]
  go_ret3
  exact ⟨rfl, (Below.refl _ _).alloc (Nat.le_refl _) _⟩
end Go.Proofs.Ythmihhjpilpcpaa
