/- ValueLogic: the law's walk. -/
import Derived.Test.YtefdkpfndjlpgaaDoorLc
import Derived.Test.YtefdkpfndjlpgaaDoorRt
import Derived.Deep.DeepCutAuto
import Derived.Deep.RegionHeld3
namespace Go.Proofs.YtefdkpfndjlpgaaDoor
open Go.RowKit
set_option linter.unusedSimpArgs false
set_option linter.unusedVariables false
attribute [local go_sem] Rg.once_normal Rg.once_exit Rg.once_ret Rg.once_panic Rg.once_goto Rg.leads_value Rg.leads_skip Rg.leads_enter Rg.brings_value Rg.brings_skip Rg.brings_enter
/-- null, false, true -/
def triV (k : Nat) : V := if k = 0 then nul else if k = 1 then boolV false else boolV true
/-- three new blocks that hold three values -/
def Three (w : World) (x y z : V) (s8 s9 s10 : Value) (wx : World) : Prop :=
  ∃ g0 g1 g2 : Nat, s8 = .pointer (some ⟨g0, 0, none⟩) ∧ s9 = .pointer (some ⟨g1, 0, none⟩) ∧ s10 = .pointer (some ⟨g2, 0, none⟩) ∧ g0 < wx.heap.size ∧ g1 < wx.heap.size ∧ g2 < wx.heap.size ∧
    (∀ k u, x.cells[k]? = some u → wx.cell? ⟨g0, k, none⟩ = some u) ∧ (∀ k u, y.cells[k]? = some u → wx.cell? ⟨g1, k, none⟩ = some u) ∧ (∀ k u, z.cells[k]? = some u → wx.cell? ⟨g2, k, none⟩ = some u) ∧ Gr w wx
def modI (a : Int) : Int := (IntKind.i64.wrap (a.tmod 3 + 3)).tmod 3
theorem modI_ok (a : Int) : ∃ k : Nat, (IntKind.i64.wrap (a.tmod 3 + 3)).tmod 3 = (k : Int) ∧ k < 3 := by
  have h1 : a.tmod 3 = a % 3 ∨ a.tmod 3 = a % 3 - 3 ∨ (a.tmod 3 = 0) := by
    rcases Int.le_total 0 a with h | h
    · left; exact Int.tmod_eq_emod_of_nonneg h
    · have h2 : a.tmod 3 = -((-a) % 3) := by rw [← Int.tmod_eq_emod_of_nonneg (by omega), Int.neg_tmod]; omega
      omega
  have h2 : IntKind.i64.wrap (a.tmod 3 + 3) = a.tmod 3 + 3 := by rw [IntKind.wrap_i64]; omega
  have h3 : (a.tmod 3 + 3).tmod 3 = (a.tmod 3 + 3) % 3 := Int.tmod_eq_emod_of_nonneg (by omega)
  rw [h2, h3]
  exact ⟨((a.tmod 3 + 3) % 3).toNat, by omega, by omega⟩
theorem tri_cell (k : Nat) (hk : k < 3) (j : Nat) (u : Value) (h : (triV k).cells[j]? = some u) :
    (#[.int .i64 0, .int .i64 0, .string ⟨#[]⟩, .bool false, .int .i64 3, .int .i64 0, .string ⟨#[]⟩, .bool false, .int .i64 3, .int .i64 0, .string ⟨#[]⟩, .bool true] : Array Value)[k * 4 + j]? = some u := by
  have hj : j < 4 := (Array.getElem?_eq_some_iff.1 h).1
  have hk' : k = 0 ∨ k = 1 ∨ k = 2 := by omega
  have hj' : j = 0 ∨ j = 1 ∨ j = 2 ∨ j = 3 := by omega
  rcases hk' with rfl | rfl | rfl <;> rcases hj' with rfl | rfl | rfl | rfl <;> exact h
theorem three_lt {x : V} {k : Nat} {u : Value} (h : x.cells[k]? = some u) : k = 0 ∨ k = 1 ∨ k = 2 ∨ k = 3 := by
  have hk : k < 4 := (Array.getElem?_eq_some_iff.1 h).1
  omega
/-- the tables of the connectives: 0 null, 1 false, 2 true -/
def andT (i j : Nat) : Nat := if i = 1 ∨ j = 1 then 1 else if i = 0 ∨ j = 0 then 0 else 2
def orT (i j : Nat) : Nat := if i = 2 ∨ j = 2 then 2 else if i = 0 ∨ j = 0 then 0 else 1
def notT (i : Nat) : Nat := if i = 0 then 0 else if i = 1 then 2 else 1
theorem and_lt (i j : Nat) : andT i j < 3 := by unfold andT; split; omega; split <;> omega
theorem or_lt (i j : Nat) : orT i j < 3 := by unfold orT; split; omega; split <;> omega
theorem not_lt3 (i : Nat) : notT i < 3 := by unfold notT; split; omega; split <;> omega
theorem lt3 {k : Nat} (h : k < 3) : k = 0 ∨ k = 1 ∨ k = 2 := by omega
theorem and_tri {i j : Nat} (hi : i < 3) (hj : j < 3) : (andR (triV i) (triV j)).1 = triV (andT i j) := by
  rcases lt3 hi with rfl | rfl | rfl <;> rcases lt3 hj with rfl | rfl | rfl <;> kernel_rfl
theorem or_tri {i j : Nat} (hi : i < 3) (hj : j < 3) : (orR (triV i) (triV j)).1 = triV (orT i j) := by
  rcases lt3 hi with rfl | rfl | rfl <;> rcases lt3 hj with rfl | rfl | rfl <;> kernel_rfl
theorem not_tri {i : Nat} (hi : i < 3) : (notR (triV i)).1 = triV (notT i) := by
  rcases lt3 hi with rfl | rfl | rfl <;> kernel_rfl
theorem and_comm3 {i j : Nat} (hi : i < 3) (hj : j < 3) : andT i j = andT j i := by
  rcases lt3 hi with rfl | rfl | rfl <;> rcases lt3 hj with rfl | rfl | rfl <;> rfl
theorem or_comm3 {i j : Nat} (hi : i < 3) (hj : j < 3) : orT i j = orT j i := by
  rcases lt3 hi with rfl | rfl | rfl <;> rcases lt3 hj with rfl | rfl | rfl <;> rfl
theorem demorgan3 {i j : Nat} (hi : i < 3) (hj : j < 3) : notT (andT i j) = orT (notT i) (notT j) := by
  rcases lt3 hi with rfl | rfl | rfl <;> rcases lt3 hj with rfl | rfl | rfl <;> rfl
theorem not_not3 {i : Nat} (hi : i < 3) : notT (notT i) = i := by
  rcases lt3 hi with rfl | rfl | rfl <;> rfl
theorem and_self3 {i : Nat} (hi : i < 3) : andT i i = i := by
  rcases lt3 hi with rfl | rfl | rfl <;> rfl
theorem distrib3 {i j k : Nat} (hi : i < 3) (hj : j < 3) (hk : k < 3) : andT i (orT j k) = orT (andT i j) (andT i k) := by
  rcases lt3 hi with rfl | rfl | rfl <;> rcases lt3 hj with rfl | rfl | rfl <;> rcases lt3 hk with rfl | rfl | rfl <;> rfl
theorem assoc3 {i j k : Nat} (hi : i < 3) (hj : j < 3) (hk : k < 3) : andT i (andT j k) = andT (andT i j) k := by
  rcases lt3 hi with rfl | rfl | rfl <;> rcases lt3 hj with rfl | rfl | rfl <;> rcases lt3 hk with rfl | rfl | rfl <;> rfl
set_option maxHeartbeats 4000000 in
set_option maxRecDepth 100000 in
theorem logic_any (a b c : Int) (m : Int) (w : World) (hm : w.cell? ⟨0, 0, none⟩ = some (.int .i64 m)) :
    Calls Tryd.prog 5 #[.int .i64 a, .int .i64 b, .int .i64 c] w (Yes w) := by
  have hpos : 0 < w.heap.size := lt_of_cell hm
  obtain ⟨ia, ea, la⟩ := modI_ok a
  obtain ⟨ib, eb, lb⟩ := modI_ok b
  obtain ⟨ic, ec, lc⟩ := modI_ok c
  have la' : (ia : Int) < 3 := by omega
  have lb' : (ib : Int) < 3 := by omega
  have lc' : (ic : Int) < 3 := by omega
  have T1 := fun W => ltruth_any false W
  have T2 := fun W => ltruth_any true W
  go_enter Tryd.func5, Tryd.ntmps5
  go_wp2_with fail
  refine (T1 _).mono ?_
  rintro e w1 ⟨rfl, hg⟩
  have hc := Gr.cells hg
  have hf := Gr.frees hg
  have hz := Gr.size hg
  try simp only [World.size_alloc, World.size_setCell, World.size_drew] at hz
  try have : 0 < w1.heap.size := by omega
  try have : w.heap.size < w1.heap.size := by omega
  go_wp2_with fail
  refine (T2 _).mono ?_
  rintro e w2 ⟨rfl, hg⟩
  have hc := Gr.cells hg
  have hf := Gr.frees hg
  have hz := Gr.size hg
  try simp only [World.size_alloc, World.size_setCell, World.size_drew] at hz
  try have : 0 < w2.heap.size := by omega
  try have : w.heap.size < w2.heap.size := by omega
  try have : w1.heap.size < w2.heap.size := by omega
  try have : w1.heap.size + 1 < w2.heap.size := by omega
  go_wp2_with fail
  go_cut [8, 9, 10] (fun s8 s9 s10 wx => Three w (triV ia) (triV ib) (triV ic) s8 s9 s10 wx)
  case first =>
    have hx := fun j u h => tri_cell ia la j u h
    have hy := fun j u h => tri_cell ib lb j u h
    have hz' := fun j u h => tri_cell ic lc j u h
    generalize triV ia = x at *
    generalize triV ib = y at *
    generalize triV ic = z at *
    obtain ⟨x0, x1, x2, x3⟩ := x
    obtain ⟨y0, y1, y2, y3⟩ := y
    obtain ⟨z0, z1, z2, z3⟩ := z
    obtain ⟨W, hW⟩ : ∃ W : World, W = w2.alloc (.cells #[.int .i64 0, .int .i64 0, .string ⟨#[]⟩, .bool false, .int .i64 3, .int .i64 0, .string ⟨#[]⟩, .bool false, .int .i64 3, .int .i64 0, .string ⟨#[]⟩, .bool true] 23) := ⟨_, rfl⟩
    have hgW : Gr w W := by
      rw [hW]
      repeat' (first | exact Gr.refl _ | exact Nat.le_refl _ | exact Nat.le_add_right _ _ | refine Gr.setCell ?_ ?_ _ | refine Gr.alloc ?_ _ | refine Gr.drew ?_ | refine Gr.trans ?_ (by assumption) | omega | (dsimp only; omega))
    have hblk : ∀ k u, (#[.int .i64 0, .int .i64 0, .string ⟨#[]⟩, .bool false, .int .i64 3, .int .i64 0, .string ⟨#[]⟩, .bool false, .int .i64 3, .int .i64 0, .string ⟨#[]⟩, .bool true] : Array Value)[k]? = some u → W.cell? ⟨w2.heap.size, k, none⟩ = some u := by
      intro k u h
      rw [hW, Rg.blk_cells (Rg.heap_new w2 _)]
      exact h
    have a0 : W.cell? ⟨w2.heap.size, ia * 4, none⟩ = some (.int .i64 x0) := hblk _ _ (hx 0 _ rfl)
    have a1 : W.cell? ⟨w2.heap.size, ia * 4 + 1, none⟩ = some (.int .i64 x1) := hblk _ _ (hx 1 _ rfl)
    have a2 : W.cell? ⟨w2.heap.size, ia * 4 + 2, none⟩ = some (.string x2) := hblk _ _ (hx 2 _ rfl)
    have a3 : W.cell? ⟨w2.heap.size, ia * 4 + 3, none⟩ = some (.bool x3) := hblk _ _ (hx 3 _ rfl)
    have b0 : W.cell? ⟨w2.heap.size, ib * 4, none⟩ = some (.int .i64 y0) := hblk _ _ (hy 0 _ rfl)
    have b1 : W.cell? ⟨w2.heap.size, ib * 4 + 1, none⟩ = some (.int .i64 y1) := hblk _ _ (hy 1 _ rfl)
    have b2 : W.cell? ⟨w2.heap.size, ib * 4 + 2, none⟩ = some (.string y2) := hblk _ _ (hy 2 _ rfl)
    have b3 : W.cell? ⟨w2.heap.size, ib * 4 + 3, none⟩ = some (.bool y3) := hblk _ _ (hy 3 _ rfl)
    have c0 : W.cell? ⟨w2.heap.size, ic * 4, none⟩ = some (.int .i64 z0) := hblk _ _ (hz' 0 _ rfl)
    have c1 : W.cell? ⟨w2.heap.size, ic * 4 + 1, none⟩ = some (.int .i64 z1) := hblk _ _ (hz' 1 _ rfl)
    have c2 : W.cell? ⟨w2.heap.size, ic * 4 + 2, none⟩ = some (.string z2) := hblk _ _ (hz' 2 _ rfl)
    have c3 : W.cell? ⟨w2.heap.size, ic * 4 + 3, none⟩ = some (.bool z3) := hblk _ _ (hz' 3 _ rfl)
    have hsz : w2.heap.size < W.heap.size := by rw [hW]; simp
    rw [← hW]
    clear hx hy hz' hblk hW T1 T2 hc hf hz hg
    generalize w2.heap.size = gs at *
    have g1 : gs < W.heap.size + 1 := by omega
    have g2 : gs < W.heap.size + 1 + 1 := by omega
    have n0 : ¬ gs = W.heap.size := by omega
    have n1 : ¬ gs = W.heap.size + 1 := by omega
    have n2 : ¬ gs = W.heap.size + 1 + 1 := by omega
    have m0 : ¬ W.heap.size = gs := by omega
    have m1 : ¬ W.heap.size + 1 = gs := by omega
    have m2 : ¬ W.heap.size + 1 + 1 = gs := by omega
    have hdr : ∀ (w : World) p, w.drew.cell? p = w.cell? p := fun _ _ => rfl
    go_region_held3 (fun w' => w'.cell? ⟨gs, ia * 4, none⟩ = some (.int .i64 x0) ∧ w'.cell? ⟨gs, ia * 4 + 1, none⟩ = some (.int .i64 x1) ∧ w'.cell? ⟨gs, ia * 4 + 2, none⟩ = some (.string x2) ∧ w'.cell? ⟨gs, ia * 4 + 3, none⟩ = some (.bool x3) ∧
      w'.cell? ⟨gs, ib * 4, none⟩ = some (.int .i64 y0) ∧ w'.cell? ⟨gs, ib * 4 + 1, none⟩ = some (.int .i64 y1) ∧ w'.cell? ⟨gs, ib * 4 + 2, none⟩ = some (.string y2) ∧ w'.cell? ⟨gs, ib * 4 + 3, none⟩ = some (.bool y3) ∧
      w'.cell? ⟨gs, ic * 4, none⟩ = some (.int .i64 z0) ∧ w'.cell? ⟨gs, ic * 4 + 1, none⟩ = some (.int .i64 z1) ∧ w'.cell? ⟨gs, ic * 4 + 2, none⟩ = some (.string z2) ∧ w'.cell? ⟨gs, ic * 4 + 3, none⟩ = some (.bool z3)) (simp [*, go_sem, World.cell?_alloc_some, World.cell?_setCell_far]) (first | fail)
    all_goals
      go_wp2_with fail
      go_meet
      change Three w _ _ _ _ _ _ _
      refine ⟨_, _, _, rfl, rfl, rfl, ?_, ?_, ?_, ?_, ?_, ?_, ?_⟩
      rotate_right
      · repeat' (first | exact Gr.refl _ | exact Nat.le_refl _ | exact Nat.le_add_right _ _ | refine Gr.setCell ?_ ?_ _ | refine Gr.alloc ?_ _ | refine Gr.drew ?_ | refine Gr.trans ?_ (by assumption) | omega | (dsimp only; omega))
      all_goals first
        | (simp; done)
        | (simp; omega)
        | (intro k u h
           rcases three_lt h with rfl | rfl | rfl | rfl
           all_goals
             simp [V.cells] at h
             subst h
             go_simp)
  case rest =>
    obtain ⟨g0, g1, g2, rfl, rfl, rfl, l0, l1, l2, hx, hy, hz', hg⟩ := hcut
    have CA := fun W => land_any (triV ia) (triV ib) W
    have CA2 := fun W => land_any (triV ib) (triV ia) W
    have CB := fun W => lor_any (triV ia) (triV ib) W
    have CB2 := fun W => lor_any (triV ib) (triV ia) W
    have CN := fun W => lnot_any (triV (andT ia ib)) W
    have CX := fun W => lnot_any (triV ia) W
    have CY := fun W => lnot_any (triV ib) W
    have CM := fun W => lor_any (triV (notT ia)) (triV (notT ib)) W
    have CXX := fun W => lnot_any (triV (notT ia)) W
    have CR := fun W => lor_any (triV ib) (triV ic) W
    have CS := fun W => land_any (triV ia) (triV (orT ib ic)) W
    have CT := fun W => land_any (triV ia) (triV ic) W
    have CS2 := fun W => lor_any (triV (andT ia ib)) (triV (andT ia ic)) W
    have CU := fun W => land_any (triV ib) (triV ic) W
    have CQ := fun W => land_any (triV ia) (triV (andT ib ic)) W
    have CQ2 := fun W => land_any (triV (andT ia ib)) (triV ic) W
    have CD := fun W => land_any (triV ia) (triV ia) W
    rw [and_tri la lb] at CA
    rw [and_tri lb la, and_comm3 lb la] at CA2
    rw [or_tri la lb] at CB
    rw [or_tri lb la, or_comm3 lb la] at CB2
    rw [not_tri (and_lt ia ib)] at CN
    rw [not_tri la] at CX
    rw [not_tri lb] at CY
    rw [or_tri (not_lt3 ia) (not_lt3 ib), ← demorgan3 la lb] at CM
    rw [not_tri (not_lt3 ia), not_not3 la] at CXX
    rw [or_tri lb lc] at CR
    rw [and_tri la (or_lt ib ic)] at CS
    rw [and_tri la lc] at CT
    rw [or_tri (and_lt ia ib) (and_lt ia ic), ← distrib3 la lb lc] at CS2
    rw [and_tri lb lc] at CU
    rw [and_tri la (and_lt ib ic)] at CQ
    rw [and_tri (and_lt ia ib) lc, ← assoc3 la lb lc] at CQ2
    rw [and_tri la la, and_self3 la] at CD
    have H0 := hg.keep hm
    have hp0 : 0 < wc.heap.size := by omega
    clear ea eb ec la lb lc la' lb' lc'
    generalize triV (andT ia (andT ib ic)) = Q at *
    generalize triV (andT ib ic) = U at *
    generalize triV (andT ia ic) = T at *
    generalize triV (andT ia (orT ib ic)) = S at *
    generalize triV (orT ib ic) = R at *
    generalize triV (notT ib) = Y at *
    generalize triV (notT ia) = X at *
    generalize triV (notT (andT ia ib)) = N at *
    generalize triV (orT ia ib) = B at *
    generalize triV (andT ia ib) = A at *
    generalize triV ic = z at *
    generalize triV ib = y at *
    generalize triV ia = x at *
    obtain ⟨x0, x1, x2, x3⟩ := x
    obtain ⟨y0, y1, y2, y3⟩ := y
    obtain ⟨z0, z1, z2, z3⟩ := z
    obtain ⟨A0, A1, A2, A3⟩ := A
    obtain ⟨B0, B1, B2, B3⟩ := B
    obtain ⟨N0, N1, N2, N3⟩ := N
    obtain ⟨X0, X1, X2, X3⟩ := X
    obtain ⟨Y0, Y1, Y2, Y3⟩ := Y
    obtain ⟨R0, R1, R2, R3⟩ := R
    obtain ⟨S0, S1, S2, S3⟩ := S
    obtain ⟨T0, T1, T2, T3⟩ := T
    obtain ⟨U0, U1, U2, U3⟩ := U
    obtain ⟨Q0, Q1, Q2, Q3⟩ := Q
    have EA := fun W => v_same A0 A1 A2 A3 W
    have EB := fun W => v_same B0 B1 B2 B3 W
    have EN := fun W => v_same N0 N1 N2 N3 W
    have Ex := fun W => v_same x0 x1 x2 x3 W
    have ES := fun W => v_same S0 S1 S2 S3 W
    have EQ := fun W => v_same Q0 Q1 Q2 Q3 W
    have xc0 : wc.cell? ⟨g0, 0, none⟩ = some (.int .i64 x0) := hx 0 _ rfl
    have xc1 : wc.cell? ⟨g0, 1, none⟩ = some (.int .i64 x1) := hx 1 _ rfl
    have xc2 : wc.cell? ⟨g0, 2, none⟩ = some (.string x2) := hx 2 _ rfl
    have xc3 : wc.cell? ⟨g0, 3, none⟩ = some (.bool x3) := hx 3 _ rfl
    have yc0 : wc.cell? ⟨g1, 0, none⟩ = some (.int .i64 y0) := hy 0 _ rfl
    have yc1 : wc.cell? ⟨g1, 1, none⟩ = some (.int .i64 y1) := hy 1 _ rfl
    have yc2 : wc.cell? ⟨g1, 2, none⟩ = some (.string y2) := hy 2 _ rfl
    have yc3 : wc.cell? ⟨g1, 3, none⟩ = some (.bool y3) := hy 3 _ rfl
    have zc0 : wc.cell? ⟨g2, 0, none⟩ = some (.int .i64 z0) := hz' 0 _ rfl
    have zc1 : wc.cell? ⟨g2, 1, none⟩ = some (.int .i64 z1) := hz' 1 _ rfl
    have zc2 : wc.cell? ⟨g2, 2, none⟩ = some (.string z2) := hz' 2 _ rfl
    have zc3 : wc.cell? ⟨g2, 3, none⟩ = some (.bool z3) := hz' 3 _ rfl
    clear hx hy hz'
    simp only [V.val] at CA CA2 CB CB2 CN CX CY CM CXX CR CS CT CS2 CU CQ CQ2 CD
    have tg := v_guard
    go_wp2_with fail
    refine Rg.region_text 94 (Below.drew (Below.refl _ _)) (by kernel_rfl) (by kernel_rfl) (fun _ _ d _ _ h => by cases d <;> exact h) ?_
    simp only [List.append_eq, List.cons_append, List.nil_append, List.take_succ_cons, List.take_zero, List.drop_succ_cons, List.drop_zero]
    repeat (first
        | (refine Rg.wpDets_skip (by rfl) ?_; simp only [Act.put, List.setIfInBounds_toArray, List.set_cons_zero, List.set_cons_succ])
        | (refine Rg.wpDets_step ?_ (by rfl) (fun w hS => ?_) ?_
           rotate_left
           · have hc := Gr.cells hS
             have hf := Gr.frees hS
             go_simp
             first
             | (refine ⟨?_, Below.refl _ _⟩; with_reducible rfl)
             | ((with_reducible refine (CA _).mono ?_); rintro e w' ⟨rfl, hg⟩; refine ⟨?_, hg⟩; with_reducible rfl)
             | ((with_reducible refine (CA2 _).mono ?_); rintro e w' ⟨rfl, hg⟩; refine ⟨?_, hg⟩; with_reducible rfl)
             | ((with_reducible refine (CB _).mono ?_); rintro e w' ⟨rfl, hg⟩; refine ⟨?_, hg⟩; with_reducible rfl)
             | ((with_reducible refine (CB2 _).mono ?_); rintro e w' ⟨rfl, hg⟩; refine ⟨?_, hg⟩; with_reducible rfl)
             | ((with_reducible refine (CN _).mono ?_); rintro e w' ⟨rfl, hg⟩; refine ⟨?_, hg⟩; with_reducible rfl)
             | ((with_reducible refine (CX _).mono ?_); rintro e w' ⟨rfl, hg⟩; refine ⟨?_, hg⟩; with_reducible rfl)
             | ((with_reducible refine (CY _).mono ?_); rintro e w' ⟨rfl, hg⟩; refine ⟨?_, hg⟩; with_reducible rfl)
             | ((with_reducible refine (CM _).mono ?_); rintro e w' ⟨rfl, hg⟩; refine ⟨?_, hg⟩; with_reducible rfl)
             | ((with_reducible refine (CXX _).mono ?_); rintro e w' ⟨rfl, hg⟩; refine ⟨?_, hg⟩; with_reducible rfl)
             | ((with_reducible refine (CR _).mono ?_); rintro e w' ⟨rfl, hg⟩; refine ⟨?_, hg⟩; with_reducible rfl)
             | ((with_reducible refine (CS _).mono ?_); rintro e w' ⟨rfl, hg⟩; refine ⟨?_, hg⟩; with_reducible rfl)
             | ((with_reducible refine (CT _).mono ?_); rintro e w' ⟨rfl, hg⟩; refine ⟨?_, hg⟩; with_reducible rfl)
             | ((with_reducible refine (CS2 _).mono ?_); rintro e w' ⟨rfl, hg⟩; refine ⟨?_, hg⟩; with_reducible rfl)
             | ((with_reducible refine (CU _).mono ?_); rintro e w' ⟨rfl, hg⟩; refine ⟨?_, hg⟩; with_reducible rfl)
             | ((with_reducible refine (CQ _).mono ?_); rintro e w' ⟨rfl, hg⟩; refine ⟨?_, hg⟩; with_reducible rfl)
             | ((with_reducible refine (CQ2 _).mono ?_); rintro e w' ⟨rfl, hg⟩; refine ⟨?_, hg⟩; with_reducible rfl)
             | ((with_reducible refine (CD _).mono ?_); rintro e w' ⟨rfl, hg⟩; refine ⟨?_, hg⟩; with_reducible rfl)
             | ((with_reducible refine (awake_any m _ (by go_simp)).mono ?_); rintro e w' ⟨rfl, hg⟩; refine ⟨?_, hg⟩; with_reducible rfl)
           simp only [Act.put, List.setIfInBounds_toArray, List.set_cons_zero, List.set_cons_succ]))
    refine Rg.wpDets_nil ?_
    refine Rg.wpFlts_nil ?_
    refine Rg.wpLays_nil ?_
    intro w' hK
    have hg : Gr _ w' := hK.up
    have hc := hg.cells
    have hf := hg.frees
    have hz := hg.size
    try simp only [World.size_alloc, World.size_setCell, World.size_drew] at hz
    try have : 0 < w'.heap.size := by omega
    try have : w.heap.size < w'.heap.size := by omega
    go_wp2
    all_goals
      (try (go_step3; (try simp only [Exit.then]); (try change Rg.once _ _ _ _ _ _); rw [Rg.once_goto]; go_wp2))
      (try rw [Rg.once_ret])
      (try rw [Exit.noGoto_ret])
      (try change bodyPost _ _ _ _ _ _)
      first
      | (go_returns; refine ⟨?_, ?_⟩)
      | (refine bodyPost_ret (by simp [results, Tryd.results5, go_sem, *]; try rfl) rfl ⟨?_, ?_⟩)
      rotate_left
      · repeat' (first | exact Gr.refl _ | exact Nat.le_refl _ | exact Nat.le_add_right _ _ | refine Gr.setCell ?_ ?_ _ | refine Gr.alloc ?_ _ | refine Gr.drew ?_ | refine Gr.trans ?_ (by assumption) | omega | (dsimp only; omega))
    all_goals rfl
end Go.Proofs.YtefdkpfndjlpgaaDoor
