/- the reference: Words, whole. -/
import Derived.Test.YthmihhjpilpcpaaM2
import Derived.Test.YthmihhjpilpcpaaR3
import Derived.Test.YthmihhjpilpcpaaR4
import Derived.Test.YthmihhjpilpcpaaR5
import Derived.Deep.DeepCutAuto
namespace Go.Proofs.Ythmihhjpilpcpaa
open Go.RowKit
set_option linter.unusedVariables false
theorem oneTok_size (s : ByteArray) (k : Nat) (hk : k < s.size) (t : Lx.Tk) (n : Nat) (h : Lx.oneTok (s.data.toList.drop k) = some (t, n)) : 1 ≤ n ∧ n ≤ s.size - k := by
  have hlen : (s.data.toList.drop k).length = s.size - k := by simp
  have hdrop := drop_at s k hk
  have hot : Lx.oneTok (s.data.toList.drop k) = if Lx.letterB s[k] then Lx.wordL (s.data.toList.drop k) else if Lx.digitB s[k] then Lx.numberL (s.data.toList.drop k) else if s[k].toNat = 39 then Lx.textL (s.data.toList.drop (k + 1)) else Lx.signL (s.data.toList.drop k) := by
    rw [hdrop]; rfl
  rw [hot] at h
  split at h
  · rename_i hl
    unfold Lx.wordL at h
    dsimp only at h
    split at h
    · injection h with h
      injection h with _ h
      subst h
      exact ⟨by rw [hdrop]; exact runL_pos _ _ _ (by simp [Lx.innerB, hl]), by rw [← hlen]; exact runL_le _ _⟩
    · cases h
  · split at h
    · rename_i hd
      unfold Lx.numberL at h
      dsimp only at h
      split at h
      · injection h with h
        injection h with _ h
        subst h
        exact ⟨by rw [hdrop]; exact runL_pos _ _ _ hd, by rw [← hlen]; exact runL_le _ _⟩
      · cases h
    · split at h
      · obtain ⟨y, hy, he⟩ := Option.map_eq_some_iff.1 h
        injection he with _ he
        have := quoteL_size _ y hy
        simp at this; omega
      · have := signL_size _ t n h
        rw [hlen] at this; exact this
structure GInv (w wr : World) (out : Value) (acc : List Lx.Tok) : Prop where
  own : wr.ownsRow (w.heap.size + 1) 29 4 out acc.length (toksCells acc)
  blk : wr.heap[w.heap.size]? = some (.cells #[.slice none 0 0, .int .i64 0, .int .i64 0] 32 (0, 0))
  bel : Below w.heap.size w wr
  sz : w.heap.size + 1 ≤ wr.heap.size
theorem GInv.start (w : World) : GInv w (w.alloc (.cells #[.slice none 0 0, .int .i64 0, .int .i64 0] 32)) (.slice none 0 0) [] :=
  ⟨⟨rfl, .inl ⟨rfl, rfl⟩⟩, heap_new w _, (Below.refl _ _).alloc (Nat.le_refl _) _, by simp⟩
theorem GInv.below {w wr w' : World} {out : Value} {acc : List Lx.Tok} (h : GInv w wr out acc) (hb : Below wr.heap.size wr w') : GInv w w' out acc := by
  obtain ⟨h1, h2, h3, h4⟩ := h
  refine ⟨h1.kept (row := none) (only_of_below hb _) ?_, (hb.block _ (by omega)).trans h2, h3.trans (hb.mono (by omega)), Nat.le_trans h4 hb.size⟩
  rcases h1.2 with ⟨hv, _⟩ | ⟨g, cap, cur, hv, _⟩
  · left; rw [hv]; rfl
  · right; rw [hv]; simp [Value.ownBlock]
theorem GInv.more {w W w2 : World} {out out' : Value} {acc : List Lx.Tok} {t : Lx.Tok} {o : Obj} (h : GInv w W out acc) (hown : w2.ownsRow (w.heap.size + 1) 29 4 out' (acc.length + 1) (toksCells acc ++ (tkCells t.tk (t.pos : Int)).toList)) (hg : (W.alloc o).grownBy w2 out.ownBlock) :
    GInv w w2 out' (acc ++ [t]) := by
  obtain ⟨h1, h2, h3, h4⟩ := h
  have hlt : w.heap.size < W.heap.size := by omega
  refine ⟨by rw [toksCells_snoc, List.length_append]; exact hown, ?_, ?_, ?_⟩
  · rw [hg.block _ (by rw [World.size_alloc]; omega) (fun e => ?_), Below.heap_alloc W _ _ hlt]
    · exact h2
    · have := (h1.lt _ e.symm).1; omega
  · exact (h3.alloc (by omega) _).grown hg (by rw [World.size_alloc]; omega) (fun k hk => by have := (h1.lt k hk).1; omega)
  · have := hg.size; rw [World.size_alloc] at this; omega
theorem stored4' {w : World} {g : Nat} {a b c d : Value} {T : TypeId} (h : w.heap[g]? = some (.cells #[a, b, c, d] T (0, 0))) (x y z u : Value) :
    ((((w.setCell ⟨g, 0, none⟩ x).setCell ⟨g, 1, none⟩ y).setCell ⟨g, 2, none⟩ z).setCell ⟨g, 3, none⟩ u).heap[g]? = some (.cells #[x, y, z, u] T (0, 0)) := by
  simp [World.setCell, Array.getElem?_modify, h]
theorem blk3 {w : World} {g : Nat} {a b c : Value} {T : TypeId} (h : w.heap[g]? = some (.cells #[a, b, c] T (0, 0))) :
    w.cell? ⟨g, 0, none⟩ = some a ∧ w.cell? ⟨g, 1, none⟩ = some b ∧ w.cell? ⟨g, 2, none⟩ = some c ∧ ∀ i, w.frozen? ⟨g, i, none⟩ = false :=
  ⟨by rw [Lib.cell_of_heap h]; rfl, by rw [Lib.cell_of_heap h]; rfl, by rw [Lib.cell_of_heap h]; rfl, fun i => Lib.frozen_of_heap h i⟩
/-- what the reference's Words tells -/
def GotPost (l : List UInt8) (w : World) (e : Ending) (w' : World) : Prop :=
  Below w.heap.size w w' ∧ match Lx.lexAll l with
    | .good toks => ∃ g cap, w.heap.size ≤ g ∧ e = .returned (.agg #[.slice (some ⟨g, 0, none⟩) toks.length cap, .int .i64 0, .int .i64 0]) ∧ ∀ j u, (toksCells toks)[j]? = some u → w'.cell? ⟨g, j, none⟩ = some u
    | .bad p => e = .returned (.agg #[.slice none 0 0, .int .i64 180, .int .i64 (p : Int)])
def zeroTok : Obj := .cells #[.int .i64 0, .string ⟨#[]⟩, .int .i64 0, .int .i64 0] 29
set_option maxHeartbeats 8000000 in
set_option maxRecDepth 100000 in
theorem rwords_any (s : ByteArray) (w : World) (hs : s.size ≤ 4096) : Calls Try.prog 9 #[.string s] w (GotPost s.data.toList w) := by
  obtain ⟨i0, hi, hz0, hz1, hz2⟩ := info_parts tok_info
  have hlen : s.data.toList.length = s.size := by simp
  have Hlen := hid hlen; clear hlen
  go_enter Try.func9, Try.ntmps9
  go_wp2_with fail
  refine (skip_any s 0 _ hs (Nat.zero_le _)).mono ?_
  rintro e w' ⟨k0, rfl, rfl, _, hk0, hend0, hcame0⟩
  have Hend0 := hid hend0; clear hend0
  have Hcame0 := hid (hcame0 [] (came0 _)); clear hcame0
  go_wp2_with fail
  go_loopw [3, 4] (fun out i wr => ∃ (k : Nat) (acc : List Lx.Tok), i = .int .i64 k ∧ k ≤ s.size ∧ GInv w wr out acc ∧ Hid (Came s.data.toList k acc) ∧ Hid (k = s.data.toList.length ∨ Lx.blank1 (s.data.toList.drop k) = 0)) (fun _ i _ => s.size - (intOf i).toNat)
  case atStart => exact ⟨k0, [], rfl, by rw [Hlen.out] at hk0; exact hk0, GInv.start w, Hcame0, Hend0⟩
  case round =>
    obtain ⟨k, acc, rfl, hk, hI, hC, hE⟩ := hrel
    have hacc : acc.length ≤ k := by obtain ⟨_, _, _, h⟩ := hC.out; exact h
    have hI' := hid hI; clear hI
    clear hk0 Hend0 Hcame0
    by_cases hlt : k < s.size
    · have hl : k < s.data.toList.length := by rw [Hlen.out]; exact hlt
      have hb0 : Lx.blank1 (s.data.toList.drop k) = 0 := hE.out.resolve_left (by rw [Hlen.out]; omega)
      have hot : Lx.oneTok (s.data.toList.drop k) = if Lx.letterB s[k] then Lx.wordL (s.data.toList.drop k) else if Lx.digitB s[k] then Lx.numberL (s.data.toList.drop k) else if s[k].toNat = 39 then Lx.textL (s.data.toList.drop (k + 1)) else Lx.signL (s.data.toList.drop k) := by
        rw [drop_at s k hlt]; rfl
      have hsz1 : ∀ t n, Lx.oneTok (s.data.toList.drop k) = some (t, n) → 1 ≤ n ∧ n ≤ s.size - k := fun t n h => oneTok_size s k hlt t n h
      have Hb0 := hid hb0; clear hb0
      have Hsz1 := hid hsz1; clear hsz1
      clear hE
      cases hle : Lx.letterB s[k] with
      | true =>
        rw [hle, if_pos rfl] at hot
        go_wp2_with fail
        refine (rletter_any _ _).mono ?_; rintro e w' ⟨rfl, rfl⟩
        go_wp2_with fail
        refine (rword_any s k _ hs (by omega)).mono ?_
        rw [← hot]
        cases ho : Lx.oneTok (s.data.toList.drop k) with
        | none =>
          rintro e w1 ⟨hb, a, c, d, x, b, rfl⟩
          have hbad := hid (hC.out.wrong (by rw [Hlen.out]; exact hlt) Hb0.out ho)
          have hblk := (hb.block wr.heap.size (by simp)).trans (heap_new wr _)
          obtain ⟨c0, c1, c2, c3, hf⟩ := blk4 hblk
          have hb' : Below wr.heap.size wr w1 := ((Below.refl _ _).alloc (Nat.le_refl _) _).trans (hb.mono (by simp))
          have hI2 := hid (hI'.out.below hb')
          obtain ⟨r0, r1, r2, hfr⟩ := blk3 hI2.out.blk
          have hne : w.heap.size ≠ wr.heap.size := by have := hI'.out.sz; omega
          have hne' : wr.heap.size ≠ w.heap.size := Ne.symm hne
          have hsz' := hI'.out.sz
          clear hb hb' hblk ho hot Hb0 Hsz1
          go_wp2
          refine bodyPost_ret (v := .agg #[.slice none 0 0, .int .i64 180, .int .i64 (k : Int)]) (by simp [results, Try.results9, go_sem, r0, r1, r2, hne, hne']) rfl ⟨?_, by rw [hbad.out]⟩
          exact below_at (below_at (below_at (below_at (below_at (below_at (below_at hI2.out.bel (by omega)) (by omega)) (by omega)) (by omega)) (by omega)) (by omega)) (by omega)
        | some x =>
          obtain ⟨t, n⟩ := x
          rintro e w1 ⟨hb, rfl⟩
          have hnn := Hsz1.out t n ho
          obtain ⟨hn1, hn2⟩ := hnn
          have hC2 := hid (hC.out.tok (by rw [Hlen.out]; exact hlt) Hb0.out t n ho hn1)
          have hblk := (hb.block wr.heap.size (by simp)).trans (heap_new wr _)
          have hlt1 : wr.heap.size < w1.heap.size := by have := hb.size; simp at this; omega
          have hb' : Below wr.heap.size wr w1 := ((Below.refl _ _).alloc (Nat.le_refl _) _).trans (hb.mono (by simp))
          have Hb' := hid hb'
          have hsz' := hI'.out.sz
          obtain ⟨tk, tt, tn, htk⟩ : ∃ (tk tn : Int) (tt : ByteArray), tkCells t (k : Int) = #[.int .i64 tk, .string tt, .int .i64 tn, .int .i64 (k : Int)] := ⟨_, _, _, rfl⟩
          dsimp only
          rw [htk]
          have Htk := hid htk
          have Hblk := hid hblk
          obtain ⟨c0, c1, c2, c3, hf⟩ := blk4 hblk
          clear hb hb' hblk ho hot Hb0 Hsz1 htk
          go_upto_region 18 with (fail)
          obtain ⟨W, hW⟩ : ∃ W, W = (((w1.setCell ⟨wr.heap.size, 0, none⟩ (.int .i64 tk)).setCell ⟨wr.heap.size, 1, none⟩ (.string tn)).setCell ⟨wr.heap.size, 2, none⟩ (.int .i64 tt)).setCell ⟨wr.heap.size, 3, none⟩ (.int .i64 (k : Int)) := ⟨_, rfl⟩
          have hIW : GInv w W u3 acc := by
            refine hI'.out.below ?_
            rw [hW]
            exact below_at (below_at (below_at (below_at Hb'.out (Nat.le_refl _)) (Nat.le_refl _)) (Nat.le_refl _)) (Nat.le_refl _)
          have hWb : W.heap[wr.heap.size]? = some (.cells #[.int .i64 tk, .string tn, .int .i64 tt, .int .i64 (k : Int)] 29 (0, 0)) := by rw [hW]; exact stored4' Hblk.out _ _ _ _
          obtain ⟨e0, e1, e2, e3, _⟩ := blk4 hWb
          clear hWb
          rw [← hW]
          clear hW c0 c1 c2 c3 hf
          have hszW := hIW.sz
          have hIW' := hid hIW; clear hIW
          go_wp2_with (first | (at_builtin; refine wpList_append_own _ rfl _ _ 24 rfl (w.heap.size + 1) 29 i0 (.agg #[.int .i64 0, .string ⟨#[]⟩, .int .i64 0, .int .i64 0]) 4 40 Try.underlying24 hi hz0 hz1 hz2 rfl (by decide) _ _ _ rfl (hIW'.out.own.alloc _) ⟨W.heap.size, 0, none⟩ 1 1 [.int .i64 tk, .string tn, .int .i64 tt, .int .i64 (k : Int)] rfl rfl (by exact cell_one W _ 29 _ rfl) (by intro u hu; simp at hu; rcases hu with rfl | rfl | rfl | rfl <;> rfl) (by unfold maxLen; omega) (by omega) (by simp; omega) ?_) | fail)
          intro v' w2 hown hg _
          have hI3 : GInv w w2 v' (acc ++ [⟨t, k⟩]) := hIW'.out.more (by rw [Htk.out]; exact hown) hg
          have hI3' := hid hI3; clear hI3 hown hg
          go_wp2_with fail
          rw [show ((k : Int) + (n : Int)) = ((k + n : Nat) : Int) from by omega]
          refine (skip_any s (k + n) _ hs (by omega)).mono ?_
          rintro e w3 ⟨k', rfl, rfl, hkk, hk', hend', hcame'⟩
          have Hend' := hid hend'; clear hend'
          have Hcame' := hid (hcame' _ hC2.out); clear hcame'
          rw [Hlen.out] at hk'
          go_wp2
          go_roundw
          case rel => exact ⟨k', _, rfl, hk', hI3'.out, Hcame', Hend'⟩
          case measure => simp [intOf]; omega
      | false =>
        rw [hle] at hot
        simp only [Bool.false_eq_true, if_false] at hot
        cases hdg : Lx.digitB s[k] with
        | true =>
          rw [hdg, if_pos rfl] at hot
          go_wp2_with fail
          refine (rletter_any _ _).mono ?_; rintro e w' ⟨rfl, rfl⟩
          go_wp2_with fail
          refine (rdigit_any _ _).mono ?_; rintro e w' ⟨rfl, rfl⟩
          go_wp2_with fail
          refine (rnumber_any s k _ hs (by omega)).mono ?_
          rw [← hot]
          cases ho : Lx.oneTok (s.data.toList.drop k) with
          | none =>
            rintro e w1 ⟨hb, a, c, d, x, b, rfl⟩
            have hbad := hid (hC.out.wrong (by rw [Hlen.out]; exact hlt) Hb0.out ho)
            have hblk := (hb.block wr.heap.size (by simp)).trans (heap_new wr _)
            obtain ⟨c0, c1, c2, c3, hf⟩ := blk4 hblk
            have hb' : Below wr.heap.size wr w1 := ((Below.refl _ _).alloc (Nat.le_refl _) _).trans (hb.mono (by simp))
            have hI2 := hid (hI'.out.below hb')
            obtain ⟨r0, r1, r2, hfr⟩ := blk3 hI2.out.blk
            have hne : w.heap.size ≠ wr.heap.size := by have := hI'.out.sz; omega
            have hne' : wr.heap.size ≠ w.heap.size := Ne.symm hne
            have hsz' := hI'.out.sz
            clear hb hb' hblk ho hot Hb0 Hsz1
            go_wp2
            refine bodyPost_ret (v := .agg #[.slice none 0 0, .int .i64 180, .int .i64 (k : Int)]) (by simp [results, Try.results9, go_sem, r0, r1, r2, hne, hne']) rfl ⟨?_, by rw [hbad.out]⟩
            exact below_at (below_at (below_at (below_at (below_at (below_at (below_at hI2.out.bel (by omega)) (by omega)) (by omega)) (by omega)) (by omega)) (by omega)) (by omega)
          | some x =>
            obtain ⟨t, n⟩ := x
            rintro e w1 ⟨hb, rfl⟩
            have hnn := Hsz1.out t n ho
            obtain ⟨hn1, hn2⟩ := hnn
            have hC2 := hid (hC.out.tok (by rw [Hlen.out]; exact hlt) Hb0.out t n ho hn1)
            have hblk := (hb.block wr.heap.size (by simp)).trans (heap_new wr _)
            have hlt1 : wr.heap.size < w1.heap.size := by have := hb.size; simp at this; omega
            have hb' : Below wr.heap.size wr w1 := ((Below.refl _ _).alloc (Nat.le_refl _) _).trans (hb.mono (by simp))
            have Hb' := hid hb'
            have hsz' := hI'.out.sz
            obtain ⟨tk, tt, tn, htk⟩ : ∃ (tk tn : Int) (tt : ByteArray), tkCells t (k : Int) = #[.int .i64 tk, .string tt, .int .i64 tn, .int .i64 (k : Int)] := ⟨_, _, _, rfl⟩
            dsimp only
            rw [htk]
            have Htk := hid htk
            have Hblk := hid hblk
            obtain ⟨c0, c1, c2, c3, hf⟩ := blk4 hblk
            clear hb hb' hblk ho hot Hb0 Hsz1 htk
            go_upto_region 18 with (fail)
            obtain ⟨W, hW⟩ : ∃ W, W = (((w1.setCell ⟨wr.heap.size, 0, none⟩ (.int .i64 tk)).setCell ⟨wr.heap.size, 1, none⟩ (.string tn)).setCell ⟨wr.heap.size, 2, none⟩ (.int .i64 tt)).setCell ⟨wr.heap.size, 3, none⟩ (.int .i64 (k : Int)) := ⟨_, rfl⟩
            have hIW : GInv w W u3 acc := by
              refine hI'.out.below ?_
              rw [hW]
              exact below_at (below_at (below_at (below_at Hb'.out (Nat.le_refl _)) (Nat.le_refl _)) (Nat.le_refl _)) (Nat.le_refl _)
            have hWb : W.heap[wr.heap.size]? = some (.cells #[.int .i64 tk, .string tn, .int .i64 tt, .int .i64 (k : Int)] 29 (0, 0)) := by rw [hW]; exact stored4' Hblk.out _ _ _ _
            obtain ⟨e0, e1, e2, e3, _⟩ := blk4 hWb
            clear hWb
            rw [← hW]
            clear hW c0 c1 c2 c3 hf
            have hszW := hIW.sz
            have hIW' := hid hIW; clear hIW
            go_wp2_with (first | (at_builtin; refine wpList_append_own _ rfl _ _ 24 rfl (w.heap.size + 1) 29 i0 (.agg #[.int .i64 0, .string ⟨#[]⟩, .int .i64 0, .int .i64 0]) 4 40 Try.underlying24 hi hz0 hz1 hz2 rfl (by decide) _ _ _ rfl (hIW'.out.own.alloc _) ⟨W.heap.size, 0, none⟩ 1 1 [.int .i64 tk, .string tn, .int .i64 tt, .int .i64 (k : Int)] rfl rfl (by exact cell_one W _ 29 _ rfl) (by intro u hu; simp at hu; rcases hu with rfl | rfl | rfl | rfl <;> rfl) (by unfold maxLen; omega) (by omega) (by simp; omega) ?_) | fail)
            intro v' w2 hown hg _
            have hI3 : GInv w w2 v' (acc ++ [⟨t, k⟩]) := hIW'.out.more (by rw [Htk.out]; exact hown) hg
            have hI3' := hid hI3; clear hI3 hown hg
            go_wp2_with fail
            rw [show ((k : Int) + (n : Int)) = ((k + n : Nat) : Int) from by omega]
            refine (skip_any s (k + n) _ hs (by omega)).mono ?_
            rintro e w3 ⟨k', rfl, rfl, hkk, hk', hend', hcame'⟩
            have Hend' := hid hend'; clear hend'
            have Hcame' := hid (hcame' _ hC2.out); clear hcame'
            rw [Hlen.out] at hk'
            go_wp2
            go_roundw
            case rel => exact ⟨k', _, rfl, hk', hI3'.out, Hcame', Hend'⟩
            case measure => simp [intOf]; omega
        | false =>
          rw [hdg] at hot
          simp only [Bool.false_eq_true, if_false] at hot
          cases h39 : (s[k].toNat == 39) with
          | true =>
            have t39 : ((s[k].toNat : Int) == 39) = true := by rw [← h39]; exact ibeq _ 39
            rw [if_pos (by simpa using h39)] at hot
            clear h39
            go_wp2_with fail
            refine (rletter_any _ _).mono ?_; rintro e w' ⟨rfl, rfl⟩
            go_wp2_with fail
            refine (rdigit_any _ _).mono ?_; rintro e w' ⟨rfl, rfl⟩
            go_wp2_with fail
            refine (rtext_any s k _ hs hlt).mono ?_
            rw [← hot]
            cases ho : Lx.oneTok (s.data.toList.drop k) with
            | none =>
              rintro e w1 ⟨hb, a, c, d, x, b, rfl⟩
              have hbad := hid (hC.out.wrong (by rw [Hlen.out]; exact hlt) Hb0.out ho)
              have hblk := (hb.block wr.heap.size (by simp)).trans (heap_new wr _)
              obtain ⟨c0, c1, c2, c3, hf⟩ := blk4 hblk
              have hb' : Below wr.heap.size wr w1 := ((Below.refl _ _).alloc (Nat.le_refl _) _).trans (hb.mono (by simp))
              have hI2 := hid (hI'.out.below hb')
              obtain ⟨r0, r1, r2, hfr⟩ := blk3 hI2.out.blk
              have hne : w.heap.size ≠ wr.heap.size := by have := hI'.out.sz; omega
              have hne' : wr.heap.size ≠ w.heap.size := Ne.symm hne
              have hsz' := hI'.out.sz
              clear hb hb' hblk ho hot Hb0 Hsz1
              go_wp2
              refine bodyPost_ret (v := .agg #[.slice none 0 0, .int .i64 180, .int .i64 (k : Int)]) (by simp [results, Try.results9, go_sem, r0, r1, r2, hne, hne']) rfl ⟨?_, by rw [hbad.out]⟩
              exact below_at (below_at (below_at (below_at (below_at (below_at (below_at hI2.out.bel (by omega)) (by omega)) (by omega)) (by omega)) (by omega)) (by omega)) (by omega)
            | some x =>
              obtain ⟨t, n⟩ := x
              rintro e w1 ⟨hb, rfl⟩
              have hnn := Hsz1.out t n ho
              obtain ⟨hn1, hn2⟩ := hnn
              have hC2 := hid (hC.out.tok (by rw [Hlen.out]; exact hlt) Hb0.out t n ho hn1)
              have hblk := (hb.block wr.heap.size (by simp)).trans (heap_new wr _)
              have hlt1 : wr.heap.size < w1.heap.size := by have := hb.size; simp at this; omega
              have hb' : Below wr.heap.size wr w1 := ((Below.refl _ _).alloc (Nat.le_refl _) _).trans (hb.mono (by simp))
              have Hb' := hid hb'
              have hsz' := hI'.out.sz
              obtain ⟨tk, tt, tn, htk⟩ : ∃ (tk tn : Int) (tt : ByteArray), tkCells t (k : Int) = #[.int .i64 tk, .string tt, .int .i64 tn, .int .i64 (k : Int)] := ⟨_, _, _, rfl⟩
              dsimp only
              rw [htk]
              have Htk := hid htk
              have Hblk := hid hblk
              obtain ⟨c0, c1, c2, c3, hf⟩ := blk4 hblk
              clear hb hb' hblk ho hot Hb0 Hsz1 htk
              go_upto_region 18 with (fail)
              obtain ⟨W, hW⟩ : ∃ W, W = (((w1.setCell ⟨wr.heap.size, 0, none⟩ (.int .i64 tk)).setCell ⟨wr.heap.size, 1, none⟩ (.string tn)).setCell ⟨wr.heap.size, 2, none⟩ (.int .i64 tt)).setCell ⟨wr.heap.size, 3, none⟩ (.int .i64 (k : Int)) := ⟨_, rfl⟩
              have hIW : GInv w W u3 acc := by
                refine hI'.out.below ?_
                rw [hW]
                exact below_at (below_at (below_at (below_at Hb'.out (Nat.le_refl _)) (Nat.le_refl _)) (Nat.le_refl _)) (Nat.le_refl _)
              have hWb : W.heap[wr.heap.size]? = some (.cells #[.int .i64 tk, .string tn, .int .i64 tt, .int .i64 (k : Int)] 29 (0, 0)) := by rw [hW]; exact stored4' Hblk.out _ _ _ _
              obtain ⟨e0, e1, e2, e3, _⟩ := blk4 hWb
              clear hWb
              rw [← hW]
              clear hW c0 c1 c2 c3 hf
              have hszW := hIW.sz
              have hIW' := hid hIW; clear hIW
              go_wp2_with (first | (at_builtin; refine wpList_append_own _ rfl _ _ 24 rfl (w.heap.size + 1) 29 i0 (.agg #[.int .i64 0, .string ⟨#[]⟩, .int .i64 0, .int .i64 0]) 4 40 Try.underlying24 hi hz0 hz1 hz2 rfl (by decide) _ _ _ rfl (hIW'.out.own.alloc _) ⟨W.heap.size, 0, none⟩ 1 1 [.int .i64 tk, .string tn, .int .i64 tt, .int .i64 (k : Int)] rfl rfl (by exact cell_one W _ 29 _ rfl) (by intro u hu; simp at hu; rcases hu with rfl | rfl | rfl | rfl <;> rfl) (by unfold maxLen; omega) (by omega) (by simp; omega) ?_) | fail)
              intro v' w2 hown hg _
              have hI3 : GInv w w2 v' (acc ++ [⟨t, k⟩]) := hIW'.out.more (by rw [Htk.out]; exact hown) hg
              have hI3' := hid hI3; clear hI3 hown hg
              go_wp2_with fail
              rw [show ((k : Int) + (n : Int)) = ((k + n : Nat) : Int) from by omega]
              refine (skip_any s (k + n) _ hs (by omega)).mono ?_
              rintro e w3 ⟨k', rfl, rfl, hkk, hk', hend', hcame'⟩
              have Hend' := hid hend'; clear hend'
              have Hcame' := hid (hcame' _ hC2.out); clear hcame'
              rw [Hlen.out] at hk'
              go_wp2
              go_roundw
              case rel => exact ⟨k', _, rfl, hk', hI3'.out, Hcame', Hend'⟩
              case measure => simp [intOf]; omega
          | false =>
            have t39 : ((s[k].toNat : Int) == 39) = false := by rw [← h39]; exact ibeq _ 39
            rw [if_neg (by simpa using h39)] at hot
            clear h39
            go_wp2_with fail
            refine (rletter_any _ _).mono ?_; rintro e w' ⟨rfl, rfl⟩
            go_wp2_with fail
            refine (rdigit_any _ _).mono ?_; rintro e w' ⟨rfl, rfl⟩
            go_wp2_with fail
            refine (rsign_any s k _ hs hlt).mono ?_
            rw [← hot]
            cases ho : Lx.oneTok (s.data.toList.drop k) with
            | none =>
              rintro e w1 ⟨hb, a, c, d, x, b, rfl⟩
              have hbad := hid (hC.out.wrong (by rw [Hlen.out]; exact hlt) Hb0.out ho)
              have hblk := (hb.block wr.heap.size (by simp)).trans (heap_new wr _)
              obtain ⟨c0, c1, c2, c3, hf⟩ := blk4 hblk
              have hb' : Below wr.heap.size wr w1 := ((Below.refl _ _).alloc (Nat.le_refl _) _).trans (hb.mono (by simp))
              have hI2 := hid (hI'.out.below hb')
              obtain ⟨r0, r1, r2, hfr⟩ := blk3 hI2.out.blk
              have hne : w.heap.size ≠ wr.heap.size := by have := hI'.out.sz; omega
              have hne' : wr.heap.size ≠ w.heap.size := Ne.symm hne
              have hsz' := hI'.out.sz
              clear hb hb' hblk ho hot Hb0 Hsz1
              go_wp2
              refine bodyPost_ret (v := .agg #[.slice none 0 0, .int .i64 180, .int .i64 (k : Int)]) (by simp [results, Try.results9, go_sem, r0, r1, r2, hne, hne']) rfl ⟨?_, by rw [hbad.out]⟩
              exact below_at (below_at (below_at (below_at (below_at (below_at (below_at hI2.out.bel (by omega)) (by omega)) (by omega)) (by omega)) (by omega)) (by omega)) (by omega)
            | some x =>
              obtain ⟨t, n⟩ := x
              rintro e w1 ⟨hb, rfl⟩
              have hnn := Hsz1.out t n ho
              obtain ⟨hn1, hn2⟩ := hnn
              have hC2 := hid (hC.out.tok (by rw [Hlen.out]; exact hlt) Hb0.out t n ho hn1)
              have hblk := (hb.block wr.heap.size (by simp)).trans (heap_new wr _)
              have hlt1 : wr.heap.size < w1.heap.size := by have := hb.size; simp at this; omega
              have hb' : Below wr.heap.size wr w1 := ((Below.refl _ _).alloc (Nat.le_refl _) _).trans (hb.mono (by simp))
              have Hb' := hid hb'
              have hsz' := hI'.out.sz
              obtain ⟨tk, tt, tn, htk⟩ : ∃ (tk tn : Int) (tt : ByteArray), tkCells t (k : Int) = #[.int .i64 tk, .string tt, .int .i64 tn, .int .i64 (k : Int)] := ⟨_, _, _, rfl⟩
              dsimp only
              rw [htk]
              have Htk := hid htk
              have Hblk := hid hblk
              obtain ⟨c0, c1, c2, c3, hf⟩ := blk4 hblk
              clear hb hb' hblk ho hot Hb0 Hsz1 htk
              go_upto_region 18 with (fail)
              obtain ⟨W, hW⟩ : ∃ W, W = (((w1.setCell ⟨wr.heap.size, 0, none⟩ (.int .i64 tk)).setCell ⟨wr.heap.size, 1, none⟩ (.string tn)).setCell ⟨wr.heap.size, 2, none⟩ (.int .i64 tt)).setCell ⟨wr.heap.size, 3, none⟩ (.int .i64 (k : Int)) := ⟨_, rfl⟩
              have hIW : GInv w W u3 acc := by
                refine hI'.out.below ?_
                rw [hW]
                exact below_at (below_at (below_at (below_at Hb'.out (Nat.le_refl _)) (Nat.le_refl _)) (Nat.le_refl _)) (Nat.le_refl _)
              have hWb : W.heap[wr.heap.size]? = some (.cells #[.int .i64 tk, .string tn, .int .i64 tt, .int .i64 (k : Int)] 29 (0, 0)) := by rw [hW]; exact stored4' Hblk.out _ _ _ _
              obtain ⟨e0, e1, e2, e3, _⟩ := blk4 hWb
              clear hWb
              rw [← hW]
              clear hW c0 c1 c2 c3 hf
              have hszW := hIW.sz
              have hIW' := hid hIW; clear hIW
              go_wp2_with (first | (at_builtin; refine wpList_append_own _ rfl _ _ 24 rfl (w.heap.size + 1) 29 i0 (.agg #[.int .i64 0, .string ⟨#[]⟩, .int .i64 0, .int .i64 0]) 4 40 Try.underlying24 hi hz0 hz1 hz2 rfl (by decide) _ _ _ rfl (hIW'.out.own.alloc _) ⟨W.heap.size, 0, none⟩ 1 1 [.int .i64 tk, .string tn, .int .i64 tt, .int .i64 (k : Int)] rfl rfl (by exact cell_one W _ 29 _ rfl) (by intro u hu; simp at hu; rcases hu with rfl | rfl | rfl | rfl <;> rfl) (by unfold maxLen; omega) (by omega) (by simp; omega) ?_) | fail)
              intro v' w2 hown hg _
              have hI3 : GInv w w2 v' (acc ++ [⟨t, k⟩]) := hIW'.out.more (by rw [Htk.out]; exact hown) hg
              have hI3' := hid hI3; clear hI3 hown hg
              go_wp2_with fail
              rw [show ((k : Int) + (n : Int)) = ((k + n : Nat) : Int) from by omega]
              refine (skip_any s (k + n) _ hs (by omega)).mono ?_
              rintro e w3 ⟨k', rfl, rfl, hkk, hk', hend', hcame'⟩
              have Hend' := hid hend'; clear hend'
              have Hcame' := hid (hcame' _ hC2.out); clear hcame'
              rw [Hlen.out] at hk'
              go_wp2
              go_roundw
              case rel => exact ⟨k', _, rfl, hk', hI3'.out, Hcame', Hend'⟩
              case measure => simp [intOf]; omega
    · have hks : s.size = k := by omega
      have hgood := Came.done (l := s.data.toList) (acc := acc) (by rw [Hlen.out, hks]; exact hC.out)
      rw [Hlen.out] at hgood
      have Hgood := hid hgood; clear hgood hC hE
      subst hks
      obtain ⟨b0, b1, b2, hf⟩ := blk3 hI'.out.blk
      have hsz := hI'.out.sz
      go_wp2_with (at_builtin; refine wpList_append_own _ rfl _ _ 24 rfl (w.heap.size + 1) 29 i0 (.agg #[.int .i64 0, .string ⟨#[]⟩, .int .i64 0, .int .i64 0]) 4 40 Try.underlying24 hi hz0 hz1 hz2 rfl (by decide) _ _ _ rfl (hI'.out.own.alloc _) ⟨wr.heap.size, 0, none⟩ 1 1 [.int .i64 5, .string ⟨#[]⟩, .int .i64 0, .int .i64 (s.size : Int)] rfl rfl (by exact cell_one wr _ 29 _ rfl) (by intro u hu; simp at hu; rcases hu with rfl | rfl | rfl | rfl <;> rfl) (by unfold maxLen; omega) (by omega) (by simp; omega) ?_)
      intro v' w2 hown hg _
      have hI3 : GInv w w2 v' (acc ++ [⟨⟨5, [], 0⟩, s.size⟩]) := hI'.out.more hown hg
      obtain ⟨g, cap, rfl, hgb⟩ : ∃ g cap, v' = .slice (some ⟨g, 0, none⟩) (acc.length + 1) cap ∧ w.heap.size + 1 ≤ g := by
        rcases hown.2 with ⟨_, h0⟩ | ⟨g, cap, cur, h1, h2, _⟩
        · omega
        · exact ⟨g, cap, h1, h2⟩
      have HI3 := hid hI3; clear hI3 hown hg b0 b1 b2 hf
      obtain ⟨b0, b1, b2, hf⟩ := blk3 HI3.out.blk
      go_wp2
      refine bodyPost_ret (v := .agg #[.slice (some ⟨g, 0, none⟩) (acc.length + 1) cap, .int .i64 0, .int .i64 0]) (by simp [results, Try.results9, go_sem, b0, b1, b2]) rfl ⟨?_, ?_⟩
      · exact below_at (below_at (below_at HI3.out.bel (Nat.le_refl _)) (Nat.le_refl _)) (Nat.le_refl _)
      · rw [Hgood.out]
        refine ⟨g, cap, by omega, by simp, ?_⟩
        intro j u hu
        have := (World.ownsRow.cells HI3.out.own (g := g) rfl) j u hu
        rw [add0] at this
        rw [← this]
        have hne : g ≠ w.heap.size := by omega
        simp [World.cell?_setCell_other, hne, Ne.symm hne]
end Go.Proofs.Ythmihhjpilpcpaa
