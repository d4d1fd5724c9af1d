/- CostParts: the law's walk. -/
import Derived.Test.YtemhfaknmagebaaDoorR2
import Derived.Test.YtemhfaknmagebaaDoorL3
namespace Go.Proofs.YtemhfaknmagebaaDoor
open Go.RowKit
set_option linter.unusedSimpArgs false
set_option linter.unusedVariables false
attribute [local go_sem] Rg.once_normal Rg.once_exit Rg.once_ret Rg.once_panic Rg.once_goto Rg.leads_value Rg.leads_skip Rg.leads_enter Rg.brings_value Rg.brings_skip Rg.brings_enter
theorem gr_of {P : Program} {f : FuncId} {args : Array Value} {W : World} {v : Value} (h : Calls P f args W fun e w' => e = .returned v ∧ W = w') : Calls P f args W fun e w' => e = .returned v ∧ Gr W w' :=
  h.mono fun e w' ⟨h, h'⟩ => ⟨h, h' ▸ Gr.refl _⟩
set_option maxHeartbeats 4000000 in
set_option maxRecDepth 100000 in
theorem parts_main (p r R P col rows : Int) (sl : Value) (w : World) (ht : Tab w) (hrows : rows ≤ 9223372036854775807) (fa fb : Nat) (A B q : Int) (ok : Bool)
    (hP : ∀ W, Gr w W → Calls Tryd.prog 12 #[.agg #[.int .i64 R, .int .i64 P, sl], .int .i64 col] W fun e w' => e = .returned (.tuple #[.complex .f64 fa fb, .int .i64 q, .bool ok]) ∧ Gr W w')
    (hR : ∀ W, Gr w W → Calls Tryd.prog 13 #[.agg #[.int .i64 R, .int .i64 P, sl], .int .i64 col] W fun e w' => e = .returned (.agg #[.int .i64 A, .int .i64 B, .int .i64 q, .bool ok]) ∧ Gr W w')
    (hT : ∀ W, Calls Tryd.prog 14 #[.complex .f64 fa fb, .agg #[.int .i64 A, .int .i64 B]] W fun e w' => e = .returned (.bool true) ∧ Gr W w') :
    Calls Tryd.prog 5 #[.int .i64 p, .int .i64 r, .agg #[.int .i64 R, .int .i64 P, sl], .int .i64 col, .int .i64 rows] w (Yes w) := by
  have b1 := bnd_le p
  have b2 := bnd_le r
  have b3 := bnd_le P
  have b4 := bnd_le R
  have O := fun W => gr_of (of_any p r W)
  have RO := fun W => rof_any p r W
  have SC := fun W => scan_any R P sl W
  have RSC := fun W => rscan_any R P sl W
  generalize bnd p = a1 at *
  generalize bnd r = a2 at *
  generalize bnd P = s1 at *
  generalize bnd R = s2 at *
  have T1 := fun W => told_any a1 a2 (by omega) (by omega) W
  have T2 := fun W => told_any s1 s2 (by omega) (by omega) W
  have M1 := fun W => make_any a1 a2 W
  have M2 := fun W => make_any s1 s2 W
  have LS := fun W => gr_of (less_any a1 a2 s1 s2 W (by omega) (by omega) (by omega) (by omega))
  have RLS := fun W => rless_any a1 a2 s1 s2 W
  have LP := fun W => gr_of (loop_any a1 a2 s1 s2 rows W (by omega) (by omega) (by omega) (by omega) hrows)
  have RL := fun W => rloop_any a1 a2 s1 s2 rows W (by omega) (by omega) (by omega) (by omega) hrows
  obtain ⟨x, hx⟩ : ∃ x, x = min (a1 + rows.toNat * s1) 9007199254740992 := ⟨_, rfl⟩
  obtain ⟨y, hy⟩ : ∃ x, x = min (a2 + rows.toNat * s2) 9007199254740992 := ⟨_, rfl⟩
  rw [← hx, ← hy] at LP RL
  have T3 := fun W => told_any x y (by omega) (by omega) W
  have TX := fun W h => text_any (Fl.fw x) (Fl.fw y) W h
  have RTX := fun W => rtext_any (Fl.fw x) (Fl.fw y) W
  generalize partS (Fl.fw x) ++ ⟨#[43]⟩ ++ partS (Fl.fw y) ++ ⟨#[105]⟩ = s at *
  generalize lessB a1 a2 s1 s2 = lb at *
  generalize Fl.fw x = fx at *
  generalize Fl.fw y = fy at *
  generalize Fl.fw a1 = fa1 at *
  generalize Fl.fw a2 = fa2 at *
  generalize Fl.fw s1 = fs1 at *
  generalize Fl.fw s2 = fs2 at *
  clear hx hy b1 b2 b3 b4 hrows
  generalize (x : Int) = ix at *
  generalize (y : Int) = iy at *
  generalize (a1 : Int) = i1 at *
  generalize (a2 : Int) = i2 at *
  generalize (s1 : Int) = j1 at *
  generalize (s2 : Int) = j2 at *
  have Ht := hid ht
  have HP := hid hP
  have HR := hid hR
  clear ht hP hR
  go_enter Tryd.func5, Tryd.ntmps5
  go_wp2_with fail
  refine (HP.out _ ((Gr.refl w).alloc _)).mono ?_
  rintro e w1 ⟨rfl, hg⟩
  have hgw1 : Gr w w1 := ((Gr.refl w).alloc _).trans hg
  have b0 : (w.alloc (.cells #[.int .i64 R, .int .i64 P, sl] 34)).cell? ⟨w.heap.size, 0, none⟩ = some (.int .i64 R) := by go_simp
  have b1 : (w.alloc (.cells #[.int .i64 R, .int .i64 P, sl] 34)).cell? ⟨w.heap.size, 1, none⟩ = some (.int .i64 P) := by go_simp
  have b2 : (w.alloc (.cells #[.int .i64 R, .int .i64 P, sl] 34)).cell? ⟨w.heap.size, 2, none⟩ = some sl := by go_simp
  have d0 := hg.keep b0
  have d1 := hg.keep b1
  have d2 := hg.keep b2
  have hws : w.heap.size < w1.heap.size := lt_of_cell d0
  clear b0 b1 b2 hg
  go_wp2_with fail
  refine (HR.out _ hgw1).mono ?_
  rintro e w2 ⟨rfl, hg⟩
  have hgw2 : Gr w w2 := hgw1.trans hg
  have c0 := hg.keep d0
  have c1 := hg.keep d1
  have c2 := hg.keep d2
  have hws2 : w.heap.size < w2.heap.size := lt_of_cell c0
  clear d0 d1 d2 hws hg HP HR hgw1
  go_wp2_with fail
  refine Rg.region_text 34 (Below.drew (Below.refl _ _)) (by kernel_rfl) (by kernel_rfl) (fun _ _ d _ _ h => by cases d <;> exact h) ?_
  simp only [List.append_eq, List.cons_append, List.nil_append, List.take_succ_cons, List.take_zero, List.drop_succ_cons, List.drop_zero]
  repeat (first
      | (refine Rg.wpDets_skip (by rfl) ?_; simp only [Act.put, List.setIfInBounds_toArray, List.set_cons_zero, List.set_cons_succ])
      | (refine Rg.wpDets_step ?_ (by rfl) (fun w hS => ?_) ?_
         rotate_left
         · have hc := Gr.cells hS
           have hf := Gr.frees hS
           go_simp
           first
           | (refine ⟨?_, Below.refl _ _⟩; with_reducible rfl)
           | ((with_reducible refine (hT _).mono ?_); rintro e w' ⟨rfl, hg⟩; refine ⟨?_, hg⟩; with_reducible rfl)
           | ((with_reducible refine (O _).mono ?_); rintro e w' ⟨rfl, hg⟩; refine ⟨?_, hg⟩; with_reducible rfl)
           | ((with_reducible refine (RO _).mono ?_); rintro e w' ⟨rfl, hg⟩; refine ⟨?_, hg⟩; with_reducible rfl)
           | ((with_reducible refine (T1 _).mono ?_); rintro e w' ⟨rfl, hg⟩; refine ⟨?_, hg⟩; with_reducible rfl)
           | ((with_reducible refine (SC _).mono ?_); rintro e w' ⟨rfl, hg⟩; refine ⟨?_, hg⟩; with_reducible rfl)
           | ((with_reducible refine (RSC _).mono ?_); rintro e w' ⟨rfl, hg⟩; refine ⟨?_, hg⟩; with_reducible rfl)
           | ((with_reducible refine (T2 _).mono ?_); rintro e w' ⟨rfl, hg⟩; refine ⟨?_, hg⟩; with_reducible rfl)
         simp only [Act.put, List.setIfInBounds_toArray, List.set_cons_zero, List.set_cons_succ]))
  refine Rg.wpDets_nil ?_
  refine Rg.wpFlts_nil ?_
  refine Rg.wpLays_nil ?_
  intro w3 hK
  have hg : Gr _ w3 := hK.up
  have hc := Gr.cells hg
  have hf := Gr.frees hg
  have hz := Gr.size hg
  try simp only [World.size_alloc, World.size_setCell, World.size_drew] at hz
  try have : 0 < w3.heap.size := by omega
  try have : w.heap.size < w3.heap.size := by omega
  try have : w.heap.size + 1 < w3.heap.size := by omega
  try have : w.heap.size + 1 + 1 < w3.heap.size := by omega
  try have : w.heap.size + 1 + 1 + 1 < w3.heap.size := by omega
  try have : w1.heap.size < w3.heap.size := by omega
  try have : w1.heap.size + 1 < w3.heap.size := by omega
  try have : w2.heap.size < w3.heap.size := by omega
  try have : w2.heap.size + 1 < w3.heap.size := by omega
  have hgw3 : Gr w w3 := (hgw2.alloc _).trans hg
  have e0 := (hgw3.size)
  have x0 : w3.cell? ⟨w.heap.size, 0, none⟩ = some (.int .i64 R) := by go_simp
  have x1 : w3.cell? ⟨w.heap.size, 1, none⟩ = some (.int .i64 P) := by go_simp
  have x2 : w3.cell? ⟨w.heap.size, 2, none⟩ = some sl := by go_simp
  have hws3 : w.heap.size < w3.heap.size := lt_of_cell x0
  clear hg hc hf hz c0 c1 c2 hws2
  go_wp2_with fail
  refine Rg.region_plan 7 [0, 1, 2, 3, 4] [] [5, 6] (Below.drew (Below.refl _ _)) (by kernel_rfl) (by kernel_rfl) (fun _ _ d _ _ h => by cases d <;> exact h) ?_
  simp only [Rg.opsAt, List.append_eq, List.cons_append, List.nil_append, List.filterMap_cons, List.filterMap_nil, List.getElem?_toArray, List.getElem?_cons_zero, List.getElem?_cons_succ, List.drop_succ_cons, List.drop_zero]
  repeat (first
      | (refine Rg.wpDets_skip (by rfl) ?_; simp only [Act.put, List.setIfInBounds_toArray, List.set_cons_zero, List.set_cons_succ])
      | (refine Rg.wpDets_step ?_ (by rfl) (fun w hS => ?_) ?_
         rotate_left
         · have hc := Gr.cells hS
           have hf := Gr.frees hS
           go_simp
           first
           | (refine ⟨?_, Below.refl _ _⟩; with_reducible rfl)
           | ((with_reducible refine (RO _).mono ?_); rintro e w' ⟨rfl, hg⟩; refine ⟨?_, hg⟩; with_reducible rfl)
           | ((with_reducible refine (RSC _).mono ?_); rintro e w' ⟨rfl, hg⟩; refine ⟨?_, hg⟩; with_reducible rfl)
         simp only [Act.put, List.setIfInBounds_toArray, List.set_cons_zero, List.set_cons_succ]))
  refine Rg.wpDets_nil ?_
  refine Rg.wpFlts_nil ?_
  refine Rg.wpLays_step ?_ (by rfl) (fun w => ?_) (fun g0 hg0 hu0 => ?_)
  rotate_left
  · go_simp
    try with_reducible rfl
  simp only [Act.put, List.setIfInBounds_toArray, List.set_cons_zero, List.set_cons_succ]
  refine Rg.wpLays_step ?_ (by rfl) (fun w => ?_) (fun g1 hg1 hu1 => ?_)
  rotate_left
  · go_simp
    try with_reducible rfl
  simp only [Act.put, List.setIfInBounds_toArray, List.set_cons_zero, List.set_cons_succ]
  refine Rg.wpLays_nil ?_
  intro w4 hK
  have hg : Gr _ w4 := hK.up
  obtain ⟨hb1, hb0, _⟩ := hK.psi
  have hcb0 := Rg.blk_cells hb0
  have hfb0 := Rg.blk_free hb0
  have hlb0 := lt_of_block hb0
  try simp only [World.size_alloc, World.size_setCell, World.size_drew] at hg0
  have hcb1 := Rg.blk_cells hb1
  have hfb1 := Rg.blk_free hb1
  have hlb1 := lt_of_block hb1
  try simp only [World.size_alloc, World.size_setCell, World.size_drew] at hg1
  have hn10 : ¬ g1 = g0 := fun e => hu1 (by simp [Rg.more, e])
  clear hK hb0 hb1
  have hc := Gr.cells hg
  have hf := Gr.frees hg
  have hz := Gr.size hg
  try simp only [World.size_alloc, World.size_setCell, World.size_drew] at hz
  try have : 0 < w4.heap.size := by omega
  try have : w.heap.size < w4.heap.size := by omega
  try have : w.heap.size + 1 < w4.heap.size := by omega
  try have : w.heap.size + 1 + 1 < w4.heap.size := by omega
  try have : w.heap.size + 1 + 1 + 1 < w4.heap.size := by omega
  try have : w1.heap.size < w4.heap.size := by omega
  try have : w1.heap.size + 1 < w4.heap.size := by omega
  try have : w2.heap.size < w4.heap.size := by omega
  try have : w2.heap.size + 1 < w4.heap.size := by omega
  try have : w3.heap.size < w4.heap.size := by omega
  try have : w3.heap.size + 1 < w4.heap.size := by omega
  try have : w.heap.size < g0 := by omega
  try have : ¬ w.heap.size = g0 := by omega
  try have : ¬ g0 = w.heap.size := by omega
  try have : w1.heap.size < g0 := by omega
  try have : ¬ w1.heap.size = g0 := by omega
  try have : ¬ g0 = w1.heap.size := by omega
  try have : w2.heap.size < g0 := by omega
  try have : ¬ w2.heap.size = g0 := by omega
  try have : ¬ g0 = w2.heap.size := by omega
  try have : w3.heap.size < g0 := by omega
  try have : ¬ w3.heap.size = g0 := by omega
  try have : ¬ g0 = w3.heap.size := by omega
  try have : w.heap.size < g1 := by omega
  try have : ¬ w.heap.size = g1 := by omega
  try have : ¬ g1 = w.heap.size := by omega
  try have : w1.heap.size < g1 := by omega
  try have : ¬ w1.heap.size = g1 := by omega
  try have : ¬ g1 = w1.heap.size := by omega
  try have : w2.heap.size < g1 := by omega
  try have : ¬ w2.heap.size = g1 := by omega
  try have : ¬ g1 = w2.heap.size := by omega
  try have : w3.heap.size < g1 := by omega
  try have : ¬ w3.heap.size = g1 := by omega
  try have : ¬ g1 = w3.heap.size := by omega
  go_wp2_with fail
  obtain ⟨X, hX⟩ : ∃ X : World, X = ((((w4.setCell ⟨g0, 0, none⟩ (.int .i64 i1)).setCell ⟨g0, 1, none⟩ (.int .i64 i2)).setCell ⟨g1, 0, none⟩ (.int .i64 j1)).setCell ⟨g1, 1, none⟩ (.int .i64 j2)) := ⟨_, rfl⟩
  have hgX : Gr w X := by
    rw [hX]
    exact ((((hgw3.trans hg).setCell (by dsimp only; omega) _).setCell (by dsimp only; omega) _).setCell (by dsimp only; omega) _).setCell (by dsimp only; omega) _
  have hn01 : ¬ g0 = g1 := fun e => hn10 e.symm
  have xa0 : X.cell? ⟨g0, 0, none⟩ = some (.int .i64 i1) := by rw [hX]; go_simp
  have xa1 : X.cell? ⟨g0, 1, none⟩ = some (.int .i64 i2) := by rw [hX]; go_simp
  have xb0 : X.cell? ⟨g1, 0, none⟩ = some (.int .i64 j1) := by rw [hX]; go_simp
  have xb1 : X.cell? ⟨g1, 1, none⟩ = some (.int .i64 j2) := by rw [hX]; go_simp
  have xl0 : g0 < X.heap.size := lt_of_cell xa0
  have xl1 : g1 < X.heap.size := lt_of_cell xb0
  have htX : Tab X := Ht.out.keep hgX
  have HtX := hid htX
  rw [← hX]
  clear hX hg hc hf hz hcb0 hcb1 hfb0 hfb1 hlb0 hlb1 hn10 hn01 hgw3 x0 x1 x2 htX
  go_wp2_with fail
  refine Rg.region_text 6 (Below.drew (Below.refl _ _)) (by kernel_rfl) (by kernel_rfl) (fun _ _ d _ _ h => by cases d <;> exact h) ?_
  simp only [List.append_eq, List.cons_append, List.nil_append, List.take_succ_cons, List.take_zero, List.drop_succ_cons, List.drop_zero]
  repeat (first
      | (refine Rg.wpDets_skip (by rfl) ?_; simp only [Act.put, List.setIfInBounds_toArray, List.set_cons_zero, List.set_cons_succ])
      | (refine Rg.wpDets_step ?_ (by rfl) (fun w hS => ?_) ?_
         rotate_left
         · have hc := Gr.cells hS
           have hf := Gr.frees hS
           go_simp
           first
           | (refine ⟨?_, Below.refl _ _⟩; with_reducible rfl)
           | ((with_reducible refine (M1 _).mono ?_); rintro e w' ⟨rfl, hg⟩; refine ⟨?_, hg⟩; with_reducible rfl)
           | ((with_reducible refine (M2 _).mono ?_); rintro e w' ⟨rfl, hg⟩; refine ⟨?_, hg⟩; with_reducible rfl)
           | ((with_reducible refine (LP _).mono ?_); rintro e w' ⟨rfl, hg⟩; refine ⟨?_, hg⟩; with_reducible rfl)
         simp only [Act.put, List.setIfInBounds_toArray, List.set_cons_zero, List.set_cons_succ]))
  refine Rg.wpDets_nil ?_
  refine Rg.wpFlts_nil ?_
  refine Rg.wpLays_nil ?_
  intro w5 hK
  have hg : Gr _ w5 := hK.up
  have hc := Gr.cells hg
  have hf := Gr.frees hg
  have hz := Gr.size hg
  try simp only [World.size_alloc, World.size_setCell, World.size_drew] at hz
  try have : 0 < w5.heap.size := by omega
  try have : w.heap.size < w5.heap.size := by omega
  try have : w.heap.size + 1 < w5.heap.size := by omega
  try have : w.heap.size + 1 + 1 < w5.heap.size := by omega
  try have : w.heap.size + 1 + 1 + 1 < w5.heap.size := by omega
  try have : w1.heap.size < w5.heap.size := by omega
  try have : w1.heap.size + 1 < w5.heap.size := by omega
  try have : w2.heap.size < w5.heap.size := by omega
  try have : w2.heap.size + 1 < w5.heap.size := by omega
  try have : w3.heap.size < w5.heap.size := by omega
  try have : w3.heap.size + 1 < w5.heap.size := by omega
  try have : w4.heap.size < w5.heap.size := by omega
  try have : w4.heap.size + 1 < w5.heap.size := by omega
  have hgX5 : Gr w w5 := hgX.trans hg
  have ya0 := hg.keep xa0
  have ya1 := hg.keep xa1
  have yb0 := hg.keep xb0
  have yb1 := hg.keep xb1
  have yl0 : g0 < w5.heap.size := lt_of_cell ya0
  have yl1 : g1 < w5.heap.size := lt_of_cell yb0
  have HtY := hid (HtX.out.keep hg)
  clear hg hc hf hz xa0 xa1 xb0 xb1 xl0 xl1 HtX
  have bb : (lb == lb) = true := by simp
  go_wp2_with fail
  have TXr := fun W (h : Below w5.heap.size w5 W) => TX W (HtY.out.keep h)
  have AWr := fun W (h : Below w5.heap.size w5 W) => awake_any W (HtY.out.keep h)
  refine Rg.region_text 27 (Below.drew (Below.refl _ _)) (by kernel_rfl) (by kernel_rfl) (fun _ _ d _ _ h => by cases d <;> exact h) ?_
  simp only [List.append_eq, List.cons_append, List.nil_append, List.take_succ_cons, List.take_zero, List.drop_succ_cons, List.drop_zero]
  repeat (first
      | (refine Rg.wpDets_skip (by rfl) ?_; simp only [Act.put, List.setIfInBounds_toArray, List.set_cons_zero, List.set_cons_succ])
      | (refine Rg.wpDets_step ?_ (by rfl) (fun w hS => ?_) ?_
         rotate_left
         · have hc := Gr.cells hS
           have hf := Gr.frees hS
           go_simp
           first
           | (refine ⟨?_, Below.refl _ _⟩; with_reducible rfl)
           | ((with_reducible refine (RL _).mono ?_); rintro e w' ⟨rfl, hg⟩; refine ⟨?_, hg⟩; with_reducible rfl)
           | ((with_reducible refine (T3 _).mono ?_); rintro e w' ⟨rfl, hg⟩; refine ⟨?_, hg⟩; with_reducible rfl)
           | ((with_reducible refine (M1 _).mono ?_); rintro e w' ⟨rfl, hg⟩; refine ⟨?_, hg⟩; with_reducible rfl)
           | ((with_reducible refine (M2 _).mono ?_); rintro e w' ⟨rfl, hg⟩; refine ⟨?_, hg⟩; with_reducible rfl)
           | ((with_reducible refine (LS _).mono ?_); rintro e w' ⟨rfl, hg⟩; refine ⟨?_, hg⟩; with_reducible rfl)
           | ((with_reducible refine (RLS _).mono ?_); rintro e w' ⟨rfl, hg⟩; refine ⟨?_, hg⟩; with_reducible rfl)
           | ((with_reducible refine (TXr _ hS).mono ?_); rintro e w' ⟨rfl, hg⟩; refine ⟨?_, hg⟩; with_reducible rfl)
           | ((with_reducible refine (RTX _).mono ?_); rintro e w' ⟨rfl, hg⟩; refine ⟨?_, hg⟩; with_reducible rfl)
           | ((with_reducible refine (AWr _ hS).mono ?_); rintro e w' ⟨rfl, hg⟩; refine ⟨?_, hg⟩; with_reducible rfl)
         simp only [Act.put, List.setIfInBounds_toArray, List.set_cons_zero, List.set_cons_succ]))
  refine Rg.wpDets_nil ?_
  refine Rg.wpFlts_nil ?_
  refine Rg.wpLays_nil ?_
  intro w6 hK
  have hg : Gr _ w6 := hK.up
  have hc := Gr.cells hg
  have hf := Gr.frees hg
  have hz := Gr.size hg
  try simp only [World.size_alloc, World.size_setCell, World.size_drew] at hz
  try have : 0 < w6.heap.size := by omega
  try have : w.heap.size < w6.heap.size := by omega
  try have : w.heap.size + 1 < w6.heap.size := by omega
  try have : w.heap.size + 1 + 1 < w6.heap.size := by omega
  try have : w.heap.size + 1 + 1 + 1 < w6.heap.size := by omega
  try have : w1.heap.size < w6.heap.size := by omega
  try have : w1.heap.size + 1 < w6.heap.size := by omega
  try have : w2.heap.size < w6.heap.size := by omega
  try have : w2.heap.size + 1 < w6.heap.size := by omega
  try have : w3.heap.size < w6.heap.size := by omega
  try have : w3.heap.size + 1 < w6.heap.size := by omega
  try have : w4.heap.size < w6.heap.size := by omega
  try have : w4.heap.size + 1 < w6.heap.size := by omega
  try have : w5.heap.size < w6.heap.size := by omega
  try have : w5.heap.size + 1 < w6.heap.size := by omega
  go_wp2
  go_ret
  exact ⟨rfl, hgX5.trans hg⟩
/-- a slice of indexes that reads as a list -/
def SRow (w : World) (sl : Value) (l : List (Int × Int)) : Prop :=
  l.length ≤ 9223372036854775807 ∧ ((∃ b off c, sl = .slice (some ⟨b, off, none⟩) l.length c ∧ CRow w b off l) ∨ (l = [] ∧ ∃ oa c, sl = .slice oa 0 c))
theorem SRow.probe {w : World} {sl : Value} {l : List (Int × Int)} (h : SRow w sl l) (R P col : Int) (hR : R ≤ 9223372036854775807) (W : World) (hg : Gr w W) :
    Calls Tryd.prog 12 #[.agg #[.int .i64 R, .int .i64 P, sl], .int .i64 col] W fun e w' => e = .returned (probeV (probeL R col l)) ∧ Gr W w' := by
  obtain ⟨hl, ⟨b, off, c, rfl, hr⟩ | ⟨rfl, oa, c, rfl⟩⟩ := h
  · exact probe_any R P col b off c l W hl (hr.keep hg) hR
  · exact probe_none R P col oa c W
theorem SRow.rprobe {w : World} {sl : Value} {l : List (Int × Int)} (h : SRow w sl l) (R P col : Int) (hR : R ≤ 9223372036854775807) (W : World) (hg : Gr w W) :
    Calls Tryd.prog 13 #[.agg #[.int .i64 R, .int .i64 P, sl], .int .i64 col] W fun e w' => e = .returned (rprobeV (probeL R col l)) ∧ Gr W w' := by
  obtain ⟨hl, ⟨b, off, c, rfl, hr⟩ | ⟨rfl, oa, c, rfl⟩⟩ := h
  · exact rprobe_any R P col b off c l W hl (hr.keep hg) hR
  · exact rprobe_none R P col oa c W
theorem costParts_any (p r R P col rows : Int) (sl : Value) (l : List (Int × Int)) (w : World) (ht : Tab w) (hS : SRow w sl l) (hR : R ≤ 9223372036854775807) (hrows : rows ≤ 9223372036854775807) :
    Calls Tryd.prog 5 #[.int .i64 p, .int .i64 r, .agg #[.int .i64 R, .int .i64 P, sl], .int .i64 col, .int .i64 rows] w (Yes w) := by
  have h1 := fun W hg => hS.probe R P col hR W hg
  have h2 := fun W hg => hS.rprobe R P col hR W hg
  cases hp : probeL R col l with
  | none =>
    rw [hp] at h1 h2
    have hT := fun W => told_any 0 0 (by omega) (by omega) W
    rw [Fl.fw_zero] at hT
    exact parts_main p r R P col rows sl w ht hrows 0 0 0 0 0 false h1 h2 hT
  | some q =>
    rw [hp] at h1 h2
    have b1 := bnd_le (2 + min q 1099511627776)
    have b2 := bnd_le q
    exact parts_main p r R P col rows sl w ht hrows _ _ _ _ q true h1 h2 (fun W => told_any _ _ (by omega) (by omega) W)
end Go.Proofs.YtemhfaknmagebaaDoor
