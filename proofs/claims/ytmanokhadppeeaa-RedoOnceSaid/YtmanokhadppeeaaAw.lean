/- redo: awake. -/
import Derived.Test.YtmanokhadppeeaaR2
import Derived.Test.YtmanokhadppeeaaU3
import Derived.Test.YtmanokhadppeeaaN1
import Derived.Lib.SlBytesConst
import Derived.Lib.SmallJoins
namespace Go.Proofs.Ytmanokhadppeeaa
open Go.RowKit Go.Maps
set_option linter.unusedSimpArgs false
set_option linter.unusedVariables false
attribute [local go_sem] Rg.leads_value Rg.leads_skip Rg.leads_enter Rg.brings_value Rg.brings_skip Rg.brings_enter Rg.bringsG_value Rg.bringsG_enter
def awA : Ln := { lsn := 1, kind := 1, txn := 7, prev := 0, next := 0, page := 0, off := 0, ob := none, bs := [], cb := 0, oa := none, es := [], ca := 0, ot := none, ts := [], ct := 0, od := none, ds := [], cd := 0, cnt := 0 }
def awB (p q : Nat) : Ln := { lsn := 40, kind := 2, txn := 7, prev := 1, next := 0, page := 2, off := 0, ob := some ⟨p, 0, none⟩, bs := [97], cb := 1, oa := some ⟨q, 0, none⟩, es := [98], ca := 1, ot := none, ts := [], ct := 0, od := none, ds := [], cd := 0, cnt := 0 }
theorem aw_an (p q : Nat) : anR [awA, awB p q] = ⟨[⟨7, 40, 1⟩], [⟨2, 40⟩], 0⟩ := rfl
theorem aw_undo (p q : Nat) : undoAll [awA, awB p q] [⟨7, 40, 1⟩] = [⟨3, 7, 1, 2, 0, [97]⟩, ⟨6, 7, 0, 0, 0, []⟩] := by rfl
theorem aw_redo (p q : Nat) : redoR [awA, awB p q] [⟨2, 40⟩] (fun _ => 0) = [40] := by rfl
theorem aw_next (p q : Nat) : nextI [awA, awB p q] 7 = 40 := by rfl
theorem byte_at {W : World} {g : Nat} {x : Int} (hc : W.cell? ⟨g, 0, none⟩ = some (.int .u8 x)) : BAt W (some ⟨g, 0, none⟩) [x] := by
  refine .inr ⟨g, 0, rfl, lt_of_cell hc, fun k hk j u hu => ?_⟩
  obtain rfl : k = 0 := by simpa using hk
  have hj : j < 1 := by rw [← bE.len x]; exact (List.getElem?_eq_some_iff.1 hu).1
  obtain rfl : j = 0 := by omega
  simp [bF] at hu
  subst hu
  simpa using hc
theorem lines_at {W : World} {g : Nat} {l : List Ln} (hg : g < W.heap.size) (h : ∀ i u, (cellsF nF l)[i]? = some u → W.cell? ⟨g, i, none⟩ = some u) : AtF nF 12 W (some ⟨g, 0, none⟩) l := by
  refine .inr ⟨g, 0, rfl, hg, fun k hk j u hu => ?_⟩
  have hj : j < 12 := by rw [← nE.len l[k]]; exact (List.getElem?_eq_some_iff.1 hu).1
  rw [Nat.zero_add]
  exact h _ _ (by rw [nE.cells_get l k hk j hj]; exact hu)
set_option maxRecDepth 100000 in
theorem aw_lines (w : World) : LAt (((w.alloc (.cells #[.int .u8 97] 5 (1, 2))).alloc (.cells #[.int .u8 98] 5 (1, 2))).alloc (.cells (cellsF nF [awA, awB w.heap.size (w.heap.size + 1)]).toArray 34)) (some ⟨w.heap.size + 1 + 1, 0, none⟩) [awA, awB w.heap.size (w.heap.size + 1)] := by
  have e2 : ((w.alloc (.cells #[.int .u8 97] 5 (1, 2))).alloc (.cells #[.int .u8 98] 5 (1, 2))).heap.size = w.heap.size + 1 + 1 := by simp
  have hb : ∀ {W1 : World} {o : Obj} {g : Nat} {u : Value}, W1.cell? ⟨g, 0, none⟩ = some u → (W1.alloc o).cell? ⟨g, 0, none⟩ = some u := fun h => ((Gr.refl _).alloc _).keep h
  have c0 : (w.alloc (.cells #[.int .u8 97] 5 (1, 2))).cell? ⟨w.heap.size, 0, none⟩ = some (.int .u8 97) := by rw [Joins.cell_alloc_mark_at w _ _ _ _ _ rfl]; rfl
  have c1 : ((w.alloc (.cells #[.int .u8 97] 5 (1, 2))).alloc (.cells #[.int .u8 98] 5 (1, 2))).cell? ⟨w.heap.size + 1, 0, none⟩ = some (.int .u8 98) := by
    rw [Joins.cell_alloc_mark_at _ _ _ _ _ _ (by simp)]; rfl
  refine ⟨lines_at (by simp) (fun i u hu => ?_), fun x hx => ?_⟩
  · rw [← e2, Rg.blk_cells (heap_alloc_new _ _) i]
    simpa using hu
  · simp only [List.mem_cons, List.not_mem_nil, or_false] at hx
    rcases hx with rfl | rfl
    · exact ⟨.inl rfl, .inl rfl, .inl rfl, .inl rfl⟩
    · exact ⟨byte_at (hb (hb c0)), byte_at (hb c1), .inl rfl, .inl rfl⟩
set_option maxHeartbeats 2000000 in
set_option maxRecDepth 100000 in
theorem awake_any (w : World) : Calls Try.prog 9 #[] w fun e w' => e = .returned (.bool true) ∧ Gr w w' := by
  have CV := Lib.run_convert_bytes_const (P := Try.prog) w 30 5 #[.int .u8 97] 1 1 Try.underlying30 Try.underlying5
  have CV2 := Joins.run_convert_bytes_const_at (P := Try.prog) (w.alloc (.cells #[.int .u8 97] 5 (1, 2))) 30 5 #[.int .u8 98] 1 1 (w.heap.size + 1) (by simp) Try.underlying30 Try.underlying5
  simp only [List.size_toArray, List.length_cons, List.length_nil, Nat.zero_add, Nat.reduceAdd] at CV CV2
  have HL := hid (aw_lines w)
  go_enter Try.func9, Try.ntmps9
  go_wp2_with fail
  clear CV CV2
  obtain ⟨W, hW⟩ : ∃ W, W = ((w.alloc (.cells #[.int .u8 97] 5 (1, 2))).alloc (.cells #[.int .u8 98] 5 (1, 2))).alloc (.cells (cellsF nF [awA, awB w.heap.size (w.heap.size + 1)]).toArray 34) := ⟨_, rfl⟩
  rw [← hW] at HL
  have HG : Hid (Gr w W) := hid (by rw [hW]; exact (((Gr.refl w).alloc _).alloc _).alloc _)
  change Calls _ _ _ (((w.alloc (.cells #[.int .u8 97] 5 (1, 2))).alloc (.cells #[.int .u8 98] 5 (1, 2))).alloc (.cells (cellsF nF [awA, awB w.heap.size (w.heap.size + 1)]).toArray 34)) _
  rw [← hW]
  clear hW
  have AN : Calls Try.prog 8 #[.slice (some ⟨w.heap.size + 1 + 1, 0, none⟩) 2 2] W fun e w' => ∃ ot ct od cd, e = .returned (.tuple #[.slice ot 1 ct, .slice od 1 cd, .int .i64 0]) ∧ TAt w' ot [⟨7, 40, 1⟩] ∧ DAt w' od [⟨2, 40⟩] ∧ Gr W w' :=
    analyze_any _ 2 [awA, awB w.heap.size (w.heap.size + 1)] W HL.out (show (2 : Nat) ≤ 1000000 by omega) (by intro x hx; simp only [List.mem_cons, List.not_mem_nil, or_false] at hx; rcases hx with rfl | rfl <;> exact ⟨Nat.zero_le _, Nat.zero_le _⟩) (show (1 : Nat) ≤ 19 by omega) (show (1 : Nat) ≤ 19 by omega)
  refine AN.mono ?_
  rintro e w1 ⟨ot, ct, od, cd, rfl, hT, hD, hg1⟩
  have HT := hid hT
  have HD := hid hD
  have HL1 := hid (HL.out.keep hg1)
  have UN : Hid (∀ W1, Gr w1 W1 → Calls Try.prog 15 #[.slice (some ⟨w.heap.size + 1 + 1, 0, none⟩) 2 2, .slice ot 1 ct] W1 fun e w' => ∃ g off, e = .returned (.slice (some ⟨g, off, none⟩) 2 2) ∧ w'.cell? ⟨g, off, none⟩ = some (.int .i64 3) ∧ w'.cell? ⟨g, off + 3, none⟩ = some (.int .i64 1) ∧ Gr W1 w') := hid (by
    intro W1 hW1
    refine (undo_any _ 2 [awA, awB w.heap.size (w.heap.size + 1)] ot ct [⟨7, 40, 1⟩] W1 (show (2 : Nat) ≤ 1000000 by omega) (HL1.out.keep hW1) (by intro x hx; simp only [List.mem_cons, List.not_mem_nil, or_false] at hx; rcases hx with rfl | rfl; exact Nat.zero_le _; exact (show (1 : Nat) ≤ 1000000 by omega)) (show (1 : Nat) ≤ 1000000 by omega) (HT.out.keep hW1) (show (41 : Nat) ≤ 100000000 by omega)).mono ?_
    rintro e w' ⟨oa, zs, rfl, hz, hat, _, hg⟩
    rw [aw_undo] at hz
    obtain ⟨z1, zr, rfl⟩ : ∃ z1 zr, zs = z1 :: zr := by
      cases zs with
      | nil => simp at hz
      | cons a r => exact ⟨a, r, rfl⟩
    obtain ⟨g, off, rfl, _, hc⟩ := AtF.get hat 0 (by simp)
    have e1 : z1.1 = ⟨3, 7, 1, 2, 0, [97]⟩ := by simpa using (List.cons.inj hz).1
    refine ⟨g, off, by rw [aw_undo]; rfl, ?_, ?_, hg⟩
    · simpa [rF, zLn, e1] using hc 0 _ rfl
    · simpa [rF, zLn, e1] using hc 3 _ rfl)
  have RE : Hid (∀ W1, Gr w1 W1 → Calls Try.prog 11 #[.slice (some ⟨w.heap.size + 1 + 1, 0, none⟩) 2 2, .slice od 1 cd, .nilFunc] W1 fun e w' => ∃ oa, e = .returned (.slice oa 1 1) ∧ Gr W1 w') := hid (by
    intro W1 hW1
    refine (redo_nil _ 2 [awA, awB w.heap.size (w.heap.size + 1)] od cd ⟨2, 40⟩ [] W1 (show (2 : Nat) ≤ 1000000 by omega) (HL1.out.keep hW1) (show (1 : Nat) ≤ 1000000 by omega) (HD.out.keep hW1) (by intro x hx; simp only [List.mem_cons, List.not_mem_nil, or_false] at hx; rcases hx with rfl | rfl; exact ⟨show okI 0 by (unfold okI; decide), show okI 1 by (unfold okI; decide)⟩; exact ⟨show okI 2 by (unfold okI; decide), show okI 40 by (unfold okI; decide)⟩)).mono ?_
    rintro e w' ⟨oa, rfl, _, hg⟩
    exact ⟨oa, rfl, hg⟩)
  have NX : Hid (∀ W1, Gr w1 W1 → Calls Try.prog 31 #[.slice (some ⟨w.heap.size + 1 + 1, 0, none⟩) 2 2, .int .i64 7] W1 fun e w' => e = .returned (.int .i64 40) ∧ Gr W1 w') := hid (fun W1 hW1 => next_any _ 2 [awA, awB w.heap.size (w.heap.size + 1)] 7 W1 (show (2 : Nat) ≤ 1000000 by omega) (HL1.out.keep hW1))
  obtain ⟨b1, off1, rfl, c0, c1, c2⟩ := t_get HT.out 0 (show 0 < 1 by omega)
  obtain ⟨b2, off2, rfl, d0, d1⟩ := d_get HD.out 0 (show 0 < 1 by omega)
  have c0 : w1.cell? ⟨b1, off1, none⟩ = some (.int .i64 7) := by simpa using c0
  have c1 : w1.cell? ⟨b1, off1 + 1, none⟩ = some (.int .i64 40) := by simpa using c1
  have c2 : w1.cell? ⟨b1, off1 + 2, none⟩ = some (.int .i64 1) := by simpa using c2
  have d0 : w1.cell? ⟨b2, off2, none⟩ = some (.int .i64 2) := by simpa using d0
  have d1 : w1.cell? ⟨b2, off2 + 1, none⟩ = some (.int .i64 40) := by simpa using d1
  have HG1 := hid (HG.out.trans hg1)
  clear HL HL1 HT HD hT hD HG hg1 AN
  go_wp2_with fail
  refine (UN.out _ (Gr.refl _)).mono ?_
  rintro e w2 ⟨g, off, rfl, u0, u1, hg2⟩
  have c0 := hg2.keep c0
  have c1 := hg2.keep c1
  have c2 := hg2.keep c2
  have d0 := hg2.keep d0
  have d1 := hg2.keep d1
  have z1 := lt_of_cell c0
  have z2 := lt_of_cell d0
  have z3 := lt_of_cell u0
  go_wp2_with fail
  refine (RE.out _ hg2).mono ?_
  rintro e w3 ⟨oa, rfl, hg3⟩
  have u0 := hg3.keep u0
  have u1 := hg3.keep u1
  have z3 := lt_of_cell u0
  have HG3 := hid (HG1.out.trans (hg2.trans hg3))
  go_wp2_with fail
  refine (NX.out _ (hg2.trans hg3)).mono ?_
  rintro e w4 ⟨rfl, hg4⟩
  go_wp2
  go_ret
  exact ⟨rfl, HG3.out.trans hg4⟩
end Go.Proofs.Ytmanokhadppeeaa
