/- Texts of this claim, put together: walks of functions and plain laws, of no condition. -/
import Derived.Test.YtbeinfhgfflneaaGreatNt3
import Derived.Lib.AppendZeros
import Derived.Deep.MidRow
section
namespace Go.Proofs.YtbeinfhgfflneaaGreat
open Go.RowKit
set_option linter.unusedSimpArgs false
set_option linter.unusedVariables false
attribute [local go_sem] Rg.leads_value Rg.leads_skip Rg.leads_enter Rg.brings_value Rg.brings_skip Rg.brings_enter Rg.bringsG_value Rg.bringsG_enter Rg.once_normal Rg.once_exit Rg.once_ret Rg.once_panic Rg.once_goto
theorem nat_ge2 (n : Nat) (x : Bool) (h : decide (2 ≤ n) = x) : decide ((2 : Int) ≤ (n : Int)) = x := by
  rw [← h]
  by_cases h0 : 2 ≤ n
  · rw [decide_eq_true h0, decide_eq_true (by omega)]
  · rw [decide_eq_false h0, decide_eq_false (by omega)]
set_option maxHeartbeats 16000000 in
set_option maxRecDepth 100000 in
theorem bkind_not (s : Sv) (aggs in_ : Bool) (rh : Hd) (roa : Option Addr) (rn rc : Nat) (oa : Option Addr) (c : Nat) (l : List Int) (w : World) (hat : AtF iF 1 w oa l) (hb : l.length ≤ 2000000) (hop : rh.op = 8) : Calls Tryz.prog 39 #[s.val aggs in_, XR.val ⟨rh, roa, rn, rc⟩, .slice oa l.length c] w (Kp2 (kindK aggs in_ rh l) w) := by
  have OC : Hid (∀ W, Gr w W → _) := hid (fun W h => bone_any oa c l W (hat.keep h) hb)
  have TT : Hid (∀ many kids kind W, Gr w W → _) := hid (fun many kids kind W h => btyped_any many kids kind oa c l W (hat.keep h) hb)
  have AG : Hid (∀ W, Gr w W → _) := hid (fun W h => bagg_any s aggs in_ rh roa rn rc oa c l W (hat.keep h) hb)
  have CA : Hid (∀ W, Gr w W → _) := hid (fun W h => bcall_any rh roa rn rc oa c l W (hat.keep h) hb)
  clear hat hb
  obtain ⟨fo, fn, fc, no, nn, nc⟩ := s
  obtain ⟨op, ⟨vt, vn, vs, vb⟩, tab, name, t, cc, nt, st⟩ := rh
  obtain rfl : op = 8 := hop
  have HR : Hid (kindK aggs in_ ⟨8, ⟨vt, vn, vs, vb⟩, tab, name, t, cc, nt, st⟩ l = typedK (l.length == 1) 3 3 l) := hid rfl
  generalize kindK aggs in_ ⟨8, ⟨vt, vn, vs, vb⟩, tab, name, t, cc, nt, st⟩ l = R at *
  generalize aggK aggs in_ _ l = RA at *
  generalize callK _ l = RC at *
  generalize typedK = TK at *
  generalize firstK l = q at *
  generalize allB q l = B at *
  generalize l.length = n at *
  obtain ⟨b1, e1⟩ : ∃ x, (n == 1) = x := ⟨_, rfl⟩
  obtain ⟨b2, e2⟩ : ∃ x, (n == 2) = x := ⟨_, rfl⟩
  obtain ⟨b3, e3⟩ : ∃ x, (n == 3) = x := ⟨_, rfl⟩
  obtain ⟨b4, e4⟩ : ∃ x, decide (2 ≤ n) = x := ⟨_, rfl⟩
  have i1 : ((n : Int) == 1) = b1 := nat_eq n 1 b1 e1
  have i2 : ((n : Int) == 2) = b2 := nat_eq n 2 b2 e2
  have i3 : ((n : Int) == 3) = b3 := nat_eq n 3 b3 e3
  have i4 : decide ((2 : Int) ≤ (n : Int)) = b4 := nat_ge2 n b4 e4
  rw [e1] at HR
  have TT1 := hid (fun W h => TT.out b1 3 3 W h)
  unfold XR.val Sv.val Kp2 at *
  obtain rfl := HR.out
  clear HR
  go_enter Tryz.func39, Tryz.ntmps39
  go_wp2_with (first | (go_at_call 69; ((with_reducible refine (TT1.out _ (((Gr.refl _).alloc _).alloc _)).mono ?_)); rintro e w' ⟨rfl, hg⟩; have hc := hg.cells; have hf := hg.frees; have hz := hg.size; (try simp only [World.size_alloc, World.size_setCell, World.size_drew] at hz); (try have : 0 < w'.heap.size := by omega); (try have : w.heap.size < w'.heap.size := by omega); (try have : w.heap.size + 1 < w'.heap.size := by omega); (try have : w.heap.size + 1 + 1 < w'.heap.size := by omega); (try have : w.heap.size + 1 + 1 + 1 < w'.heap.size := by omega)))
  all_goals
    (try (go_step3; (try simp only [Exit.then]); (try change Rg.once _ _ _ _ _ _); rw [Rg.once_goto]; go_wp2))
    (try rw [Rg.once_ret])
    (try rw [Exit.noGoto_ret])
    (try change bodyPost _ _ _ _ _ _)
    first
    | (go_returns; refine ⟨?_, ?_⟩)
    | (refine bodyPost_ret (by simp [results, Tryz.results39, go_sem, *]; try rfl) rfl ⟨?_, ?_⟩)
    rotate_left
    · repeat' (first | exact Gr.refl _ | exact Nat.le_refl _ | exact Nat.le_add_right _ _ | refine Gr.setCell ?_ ?_ _ | refine Gr.alloc ?_ _ | refine Gr.drew ?_ | refine Gr.trans ?_ (by assumption) | omega | (dsimp only; omega))
  all_goals rfl
set_option maxHeartbeats 16000000 in
set_option maxRecDepth 100000 in
theorem bkind_or (s : Sv) (aggs in_ : Bool) (rh : Hd) (roa : Option Addr) (rn rc : Nat) (oa : Option Addr) (c : Nat) (l : List Int) (w : World) (hat : AtF iF 1 w oa l) (hb : l.length ≤ 2000000) (hop : rh.op = 6) : Calls Tryz.prog 39 #[s.val aggs in_, XR.val ⟨rh, roa, rn, rc⟩, .slice oa l.length c] w (Kp2 (kindK aggs in_ rh l) w) := by
  have OC : Hid (∀ W, Gr w W → _) := hid (fun W h => bone_any oa c l W (hat.keep h) hb)
  have TT : Hid (∀ many kids kind W, Gr w W → _) := hid (fun many kids kind W h => btyped_any many kids kind oa c l W (hat.keep h) hb)
  have AG : Hid (∀ W, Gr w W → _) := hid (fun W h => bagg_any s aggs in_ rh roa rn rc oa c l W (hat.keep h) hb)
  have CA : Hid (∀ W, Gr w W → _) := hid (fun W h => bcall_any rh roa rn rc oa c l W (hat.keep h) hb)
  clear hat hb
  obtain ⟨fo, fn, fc, no, nn, nc⟩ := s
  obtain ⟨op, ⟨vt, vn, vs, vb⟩, tab, name, t, cc, nt, st⟩ := rh
  obtain rfl : op = 6 := hop
  have HR : Hid (kindK aggs in_ ⟨6, ⟨vt, vn, vs, vb⟩, tab, name, t, cc, nt, st⟩ l = typedK (l.length == 2) 3 3 l) := hid rfl
  generalize kindK aggs in_ ⟨6, ⟨vt, vn, vs, vb⟩, tab, name, t, cc, nt, st⟩ l = R at *
  generalize aggK aggs in_ _ l = RA at *
  generalize callK _ l = RC at *
  generalize typedK = TK at *
  generalize firstK l = q at *
  generalize allB q l = B at *
  generalize l.length = n at *
  obtain ⟨b1, e1⟩ : ∃ x, (n == 1) = x := ⟨_, rfl⟩
  obtain ⟨b2, e2⟩ : ∃ x, (n == 2) = x := ⟨_, rfl⟩
  obtain ⟨b3, e3⟩ : ∃ x, (n == 3) = x := ⟨_, rfl⟩
  obtain ⟨b4, e4⟩ : ∃ x, decide (2 ≤ n) = x := ⟨_, rfl⟩
  have i1 : ((n : Int) == 1) = b1 := nat_eq n 1 b1 e1
  have i2 : ((n : Int) == 2) = b2 := nat_eq n 2 b2 e2
  have i3 : ((n : Int) == 3) = b3 := nat_eq n 3 b3 e3
  have i4 : decide ((2 : Int) ≤ (n : Int)) = b4 := nat_ge2 n b4 e4
  rw [e2] at HR
  have TT1 := hid (fun W h => TT.out b2 3 3 W h)
  unfold XR.val Sv.val Kp2 at *
  obtain rfl := HR.out
  clear HR
  go_enter Tryz.func39, Tryz.ntmps39
  go_wp2_with (first | (go_at_call 69; ((with_reducible refine (TT1.out _ (((Gr.refl _).alloc _).alloc _)).mono ?_)); rintro e w' ⟨rfl, hg⟩; have hc := hg.cells; have hf := hg.frees; have hz := hg.size; (try simp only [World.size_alloc, World.size_setCell, World.size_drew] at hz); (try have : 0 < w'.heap.size := by omega); (try have : w.heap.size < w'.heap.size := by omega); (try have : w.heap.size + 1 < w'.heap.size := by omega); (try have : w.heap.size + 1 + 1 < w'.heap.size := by omega); (try have : w.heap.size + 1 + 1 + 1 < w'.heap.size := by omega)))
  all_goals
    (try (go_step3; (try simp only [Exit.then]); (try change Rg.once _ _ _ _ _ _); rw [Rg.once_goto]; go_wp2))
    (try rw [Rg.once_ret])
    (try rw [Exit.noGoto_ret])
    (try change bodyPost _ _ _ _ _ _)
    first
    | (go_returns; refine ⟨?_, ?_⟩)
    | (refine bodyPost_ret (by simp [results, Tryz.results39, go_sem, *]; try rfl) rfl ⟨?_, ?_⟩)
    rotate_left
    · repeat' (first | exact Gr.refl _ | exact Nat.le_refl _ | exact Nat.le_add_right _ _ | refine Gr.setCell ?_ ?_ _ | refine Gr.alloc ?_ _ | refine Gr.drew ?_ | refine Gr.trans ?_ (by assumption) | omega | (dsimp only; omega))
  all_goals rfl
set_option maxHeartbeats 16000000 in
set_option maxRecDepth 100000 in
theorem bkind_and (s : Sv) (aggs in_ : Bool) (rh : Hd) (roa : Option Addr) (rn rc : Nat) (oa : Option Addr) (c : Nat) (l : List Int) (w : World) (hat : AtF iF 1 w oa l) (hb : l.length ≤ 2000000) (hop : rh.op = 7) : Calls Tryz.prog 39 #[s.val aggs in_, XR.val ⟨rh, roa, rn, rc⟩, .slice oa l.length c] w (Kp2 (kindK aggs in_ rh l) w) := by
  have OC : Hid (∀ W, Gr w W → _) := hid (fun W h => bone_any oa c l W (hat.keep h) hb)
  have TT : Hid (∀ many kids kind W, Gr w W → _) := hid (fun many kids kind W h => btyped_any many kids kind oa c l W (hat.keep h) hb)
  have AG : Hid (∀ W, Gr w W → _) := hid (fun W h => bagg_any s aggs in_ rh roa rn rc oa c l W (hat.keep h) hb)
  have CA : Hid (∀ W, Gr w W → _) := hid (fun W h => bcall_any rh roa rn rc oa c l W (hat.keep h) hb)
  clear hat hb
  obtain ⟨fo, fn, fc, no, nn, nc⟩ := s
  obtain ⟨op, ⟨vt, vn, vs, vb⟩, tab, name, t, cc, nt, st⟩ := rh
  obtain rfl : op = 7 := hop
  have HR : Hid (kindK aggs in_ ⟨7, ⟨vt, vn, vs, vb⟩, tab, name, t, cc, nt, st⟩ l = typedK (l.length == 2) 3 3 l) := hid rfl
  generalize kindK aggs in_ ⟨7, ⟨vt, vn, vs, vb⟩, tab, name, t, cc, nt, st⟩ l = R at *
  generalize aggK aggs in_ _ l = RA at *
  generalize callK _ l = RC at *
  generalize typedK = TK at *
  generalize firstK l = q at *
  generalize allB q l = B at *
  generalize l.length = n at *
  obtain ⟨b1, e1⟩ : ∃ x, (n == 1) = x := ⟨_, rfl⟩
  obtain ⟨b2, e2⟩ : ∃ x, (n == 2) = x := ⟨_, rfl⟩
  obtain ⟨b3, e3⟩ : ∃ x, (n == 3) = x := ⟨_, rfl⟩
  obtain ⟨b4, e4⟩ : ∃ x, decide (2 ≤ n) = x := ⟨_, rfl⟩
  have i1 : ((n : Int) == 1) = b1 := nat_eq n 1 b1 e1
  have i2 : ((n : Int) == 2) = b2 := nat_eq n 2 b2 e2
  have i3 : ((n : Int) == 3) = b3 := nat_eq n 3 b3 e3
  have i4 : decide ((2 : Int) ≤ (n : Int)) = b4 := nat_ge2 n b4 e4
  rw [e2] at HR
  have TT1 := hid (fun W h => TT.out b2 3 3 W h)
  unfold XR.val Sv.val Kp2 at *
  obtain rfl := HR.out
  clear HR
  go_enter Tryz.func39, Tryz.ntmps39
  go_wp2_with (first | (go_at_call 69; ((with_reducible refine (TT1.out _ (((Gr.refl _).alloc _).alloc _)).mono ?_)); rintro e w' ⟨rfl, hg⟩; have hc := hg.cells; have hf := hg.frees; have hz := hg.size; (try simp only [World.size_alloc, World.size_setCell, World.size_drew] at hz); (try have : 0 < w'.heap.size := by omega); (try have : w.heap.size < w'.heap.size := by omega); (try have : w.heap.size + 1 < w'.heap.size := by omega); (try have : w.heap.size + 1 + 1 < w'.heap.size := by omega); (try have : w.heap.size + 1 + 1 + 1 < w'.heap.size := by omega)))
  all_goals
    (try (go_step3; (try simp only [Exit.then]); (try change Rg.once _ _ _ _ _ _); rw [Rg.once_goto]; go_wp2))
    (try rw [Rg.once_ret])
    (try rw [Exit.noGoto_ret])
    (try change bodyPost _ _ _ _ _ _)
    first
    | (go_returns; refine ⟨?_, ?_⟩)
    | (refine bodyPost_ret (by simp [results, Tryz.results39, go_sem, *]; try rfl) rfl ⟨?_, ?_⟩)
    rotate_left
    · repeat' (first | exact Gr.refl _ | exact Nat.le_refl _ | exact Nat.le_add_right _ _ | refine Gr.setCell ?_ ?_ _ | refine Gr.alloc ?_ _ | refine Gr.drew ?_ | refine Gr.trans ?_ (by assumption) | omega | (dsimp only; omega))
  all_goals rfl
set_option maxHeartbeats 16000000 in
set_option maxRecDepth 100000 in
theorem bkind_neg (s : Sv) (aggs in_ : Bool) (rh : Hd) (roa : Option Addr) (rn rc : Nat) (oa : Option Addr) (c : Nat) (l : List Int) (w : World) (hat : AtF iF 1 w oa l) (hb : l.length ≤ 2000000) (hop : rh.op = 24) : Calls Tryz.prog 39 #[s.val aggs in_, XR.val ⟨rh, roa, rn, rc⟩, .slice oa l.length c] w (Kp2 (kindK aggs in_ rh l) w) := by
  have OC : Hid (∀ W, Gr w W → _) := hid (fun W h => bone_any oa c l W (hat.keep h) hb)
  have TT : Hid (∀ many kids kind W, Gr w W → _) := hid (fun many kids kind W h => btyped_any many kids kind oa c l W (hat.keep h) hb)
  have AG : Hid (∀ W, Gr w W → _) := hid (fun W h => bagg_any s aggs in_ rh roa rn rc oa c l W (hat.keep h) hb)
  have CA : Hid (∀ W, Gr w W → _) := hid (fun W h => bcall_any rh roa rn rc oa c l W (hat.keep h) hb)
  clear hat hb
  obtain ⟨fo, fn, fc, no, nn, nc⟩ := s
  obtain ⟨op, ⟨vt, vn, vs, vb⟩, tab, name, t, cc, nt, st⟩ := rh
  obtain rfl : op = 24 := hop
  have HR : Hid (kindK aggs in_ ⟨24, ⟨vt, vn, vs, vb⟩, tab, name, t, cc, nt, st⟩ l = typedK (l.length == 1) 1 1 l) := hid rfl
  generalize kindK aggs in_ ⟨24, ⟨vt, vn, vs, vb⟩, tab, name, t, cc, nt, st⟩ l = R at *
  generalize aggK aggs in_ _ l = RA at *
  generalize callK _ l = RC at *
  generalize typedK = TK at *
  generalize firstK l = q at *
  generalize allB q l = B at *
  generalize l.length = n at *
  obtain ⟨b1, e1⟩ : ∃ x, (n == 1) = x := ⟨_, rfl⟩
  obtain ⟨b2, e2⟩ : ∃ x, (n == 2) = x := ⟨_, rfl⟩
  obtain ⟨b3, e3⟩ : ∃ x, (n == 3) = x := ⟨_, rfl⟩
  obtain ⟨b4, e4⟩ : ∃ x, decide (2 ≤ n) = x := ⟨_, rfl⟩
  have i1 : ((n : Int) == 1) = b1 := nat_eq n 1 b1 e1
  have i2 : ((n : Int) == 2) = b2 := nat_eq n 2 b2 e2
  have i3 : ((n : Int) == 3) = b3 := nat_eq n 3 b3 e3
  have i4 : decide ((2 : Int) ≤ (n : Int)) = b4 := nat_ge2 n b4 e4
  rw [e1] at HR
  have TT1 := hid (fun W h => TT.out b1 1 1 W h)
  unfold XR.val Sv.val Kp2 at *
  obtain rfl := HR.out
  clear HR
  go_enter Tryz.func39, Tryz.ntmps39
  go_wp2_with (first | (go_at_call 69; ((with_reducible refine (TT1.out _ (((Gr.refl _).alloc _).alloc _)).mono ?_)); rintro e w' ⟨rfl, hg⟩; have hc := hg.cells; have hf := hg.frees; have hz := hg.size; (try simp only [World.size_alloc, World.size_setCell, World.size_drew] at hz); (try have : 0 < w'.heap.size := by omega); (try have : w.heap.size < w'.heap.size := by omega); (try have : w.heap.size + 1 < w'.heap.size := by omega); (try have : w.heap.size + 1 + 1 < w'.heap.size := by omega); (try have : w.heap.size + 1 + 1 + 1 < w'.heap.size := by omega)))
  all_goals
    (try (go_step3; (try simp only [Exit.then]); (try change Rg.once _ _ _ _ _ _); rw [Rg.once_goto]; go_wp2))
    (try rw [Rg.once_ret])
    (try rw [Exit.noGoto_ret])
    (try change bodyPost _ _ _ _ _ _)
    first
    | (go_returns; refine ⟨?_, ?_⟩)
    | (refine bodyPost_ret (by simp [results, Tryz.results39, go_sem, *]; try rfl) rfl ⟨?_, ?_⟩)
    rotate_left
    · repeat' (first | exact Gr.refl _ | exact Nat.le_refl _ | exact Nat.le_add_right _ _ | refine Gr.setCell ?_ ?_ _ | refine Gr.alloc ?_ _ | refine Gr.drew ?_ | refine Gr.trans ?_ (by assumption) | omega | (dsimp only; omega))
  all_goals rfl
set_option maxHeartbeats 16000000 in
set_option maxRecDepth 100000 in
theorem bkind_cat (s : Sv) (aggs in_ : Bool) (rh : Hd) (roa : Option Addr) (rn rc : Nat) (oa : Option Addr) (c : Nat) (l : List Int) (w : World) (hat : AtF iF 1 w oa l) (hb : l.length ≤ 2000000) (hop : rh.op = 23) : Calls Tryz.prog 39 #[s.val aggs in_, XR.val ⟨rh, roa, rn, rc⟩, .slice oa l.length c] w (Kp2 (kindK aggs in_ rh l) w) := by
  have OC : Hid (∀ W, Gr w W → _) := hid (fun W h => bone_any oa c l W (hat.keep h) hb)
  have TT : Hid (∀ many kids kind W, Gr w W → _) := hid (fun many kids kind W h => btyped_any many kids kind oa c l W (hat.keep h) hb)
  have AG : Hid (∀ W, Gr w W → _) := hid (fun W h => bagg_any s aggs in_ rh roa rn rc oa c l W (hat.keep h) hb)
  have CA : Hid (∀ W, Gr w W → _) := hid (fun W h => bcall_any rh roa rn rc oa c l W (hat.keep h) hb)
  clear hat hb
  obtain ⟨fo, fn, fc, no, nn, nc⟩ := s
  obtain ⟨op, ⟨vt, vn, vs, vb⟩, tab, name, t, cc, nt, st⟩ := rh
  obtain rfl : op = 23 := hop
  have HR : Hid (kindK aggs in_ ⟨23, ⟨vt, vn, vs, vb⟩, tab, name, t, cc, nt, st⟩ l = typedK (l.length == 2) 2 2 l) := hid rfl
  generalize kindK aggs in_ ⟨23, ⟨vt, vn, vs, vb⟩, tab, name, t, cc, nt, st⟩ l = R at *
  generalize aggK aggs in_ _ l = RA at *
  generalize callK _ l = RC at *
  generalize typedK = TK at *
  generalize firstK l = q at *
  generalize allB q l = B at *
  generalize l.length = n at *
  obtain ⟨b1, e1⟩ : ∃ x, (n == 1) = x := ⟨_, rfl⟩
  obtain ⟨b2, e2⟩ : ∃ x, (n == 2) = x := ⟨_, rfl⟩
  obtain ⟨b3, e3⟩ : ∃ x, (n == 3) = x := ⟨_, rfl⟩
  obtain ⟨b4, e4⟩ : ∃ x, decide (2 ≤ n) = x := ⟨_, rfl⟩
  have i1 : ((n : Int) == 1) = b1 := nat_eq n 1 b1 e1
  have i2 : ((n : Int) == 2) = b2 := nat_eq n 2 b2 e2
  have i3 : ((n : Int) == 3) = b3 := nat_eq n 3 b3 e3
  have i4 : decide ((2 : Int) ≤ (n : Int)) = b4 := nat_ge2 n b4 e4
  rw [e2] at HR
  have TT1 := hid (fun W h => TT.out b2 2 2 W h)
  unfold XR.val Sv.val Kp2 at *
  obtain rfl := HR.out
  clear HR
  go_enter Tryz.func39, Tryz.ntmps39
  go_wp2_with (first | (go_at_call 69; ((with_reducible refine (TT1.out _ (((Gr.refl _).alloc _).alloc _)).mono ?_)); rintro e w' ⟨rfl, hg⟩; have hc := hg.cells; have hf := hg.frees; have hz := hg.size; (try simp only [World.size_alloc, World.size_setCell, World.size_drew] at hz); (try have : 0 < w'.heap.size := by omega); (try have : w.heap.size < w'.heap.size := by omega); (try have : w.heap.size + 1 < w'.heap.size := by omega); (try have : w.heap.size + 1 + 1 < w'.heap.size := by omega); (try have : w.heap.size + 1 + 1 + 1 < w'.heap.size := by omega)))
  all_goals
    (try (go_step3; (try simp only [Exit.then]); (try change Rg.once _ _ _ _ _ _); rw [Rg.once_goto]; go_wp2))
    (try rw [Rg.once_ret])
    (try rw [Exit.noGoto_ret])
    (try change bodyPost _ _ _ _ _ _)
    first
    | (go_returns; refine ⟨?_, ?_⟩)
    | (refine bodyPost_ret (by simp [results, Tryz.results39, go_sem, *]; try rfl) rfl ⟨?_, ?_⟩)
    rotate_left
    · repeat' (first | exact Gr.refl _ | exact Nat.le_refl _ | exact Nat.le_add_right _ _ | refine Gr.setCell ?_ ?_ _ | refine Gr.alloc ?_ _ | refine Gr.drew ?_ | refine Gr.trans ?_ (by assumption) | omega | (dsimp only; omega))
  all_goals rfl
set_option maxHeartbeats 16000000 in
set_option maxRecDepth 100000 in
theorem bkind_null (s : Sv) (aggs in_ : Bool) (rh : Hd) (roa : Option Addr) (rn rc : Nat) (oa : Option Addr) (c : Nat) (l : List Int) (w : World) (hat : AtF iF 1 w oa l) (hb : l.length ≤ 2000000) (hop : rh.op = 15) : Calls Tryz.prog 39 #[s.val aggs in_, XR.val ⟨rh, roa, rn, rc⟩, .slice oa l.length c] w (Kp2 (kindK aggs in_ rh l) w) := by
  have OC : Hid (∀ W, Gr w W → _) := hid (fun W h => bone_any oa c l W (hat.keep h) hb)
  have TT : Hid (∀ many kids kind W, Gr w W → _) := hid (fun many kids kind W h => btyped_any many kids kind oa c l W (hat.keep h) hb)
  have AG : Hid (∀ W, Gr w W → _) := hid (fun W h => bagg_any s aggs in_ rh roa rn rc oa c l W (hat.keep h) hb)
  have CA : Hid (∀ W, Gr w W → _) := hid (fun W h => bcall_any rh roa rn rc oa c l W (hat.keep h) hb)
  clear hat hb
  obtain ⟨fo, fn, fc, no, nn, nc⟩ := s
  obtain ⟨op, ⟨vt, vn, vs, vb⟩, tab, name, t, cc, nt, st⟩ := rh
  obtain rfl : op = 15 := hop
  have HR : Hid (kindK aggs in_ ⟨15, ⟨vt, vn, vs, vb⟩, tab, name, t, cc, nt, st⟩ l = typedK (l.length == 1) (firstK l) 3 l) := hid rfl
  generalize kindK aggs in_ ⟨15, ⟨vt, vn, vs, vb⟩, tab, name, t, cc, nt, st⟩ l = R at *
  generalize aggK aggs in_ _ l = RA at *
  generalize callK _ l = RC at *
  generalize typedK = TK at *
  generalize firstK l = q at *
  generalize allB q l = B at *
  generalize l.length = n at *
  obtain ⟨b1, e1⟩ : ∃ x, (n == 1) = x := ⟨_, rfl⟩
  obtain ⟨b2, e2⟩ : ∃ x, (n == 2) = x := ⟨_, rfl⟩
  obtain ⟨b3, e3⟩ : ∃ x, (n == 3) = x := ⟨_, rfl⟩
  obtain ⟨b4, e4⟩ : ∃ x, decide (2 ≤ n) = x := ⟨_, rfl⟩
  have i1 : ((n : Int) == 1) = b1 := nat_eq n 1 b1 e1
  have i2 : ((n : Int) == 2) = b2 := nat_eq n 2 b2 e2
  have i3 : ((n : Int) == 3) = b3 := nat_eq n 3 b3 e3
  have i4 : decide ((2 : Int) ≤ (n : Int)) = b4 := nat_ge2 n b4 e4
  rw [e1] at HR
  have TT1 := hid (fun W h => TT.out b1 q 3 W h)
  unfold XR.val Sv.val Kp2 at *
  obtain rfl := HR.out
  clear HR
  go_enter Tryz.func39, Tryz.ntmps39
  go_wp2_with (first | (go_at_call 70; ((with_reducible refine (OC.out _ (((Gr.refl _).alloc _).alloc _)).mono ?_)); rintro e w' ⟨rfl, hg⟩; have hc := hg.cells; have hf := hg.frees; have hz := hg.size; (try simp only [World.size_alloc, World.size_setCell, World.size_drew] at hz); (try have : 0 < w'.heap.size := by omega); (try have : w.heap.size < w'.heap.size := by omega); (try have : w.heap.size + 1 < w'.heap.size := by omega); (try have : w.heap.size + 1 + 1 < w'.heap.size := by omega); (try have : w.heap.size + 1 + 1 + 1 < w'.heap.size := by omega)) | (go_at_call 69; ((with_reducible refine (TT1.out _ ((((Gr.refl _).alloc _).alloc _).trans (by assumption))).mono ?_)); rintro e w' ⟨rfl, hg⟩; have hc := hg.cells; have hf := hg.frees; have hz := hg.size; (try simp only [World.size_alloc, World.size_setCell, World.size_drew] at hz); (try have : 0 < w'.heap.size := by omega); (try have : w.heap.size < w'.heap.size := by omega); (try have : w.heap.size + 1 < w'.heap.size := by omega); (try have : w.heap.size + 1 + 1 < w'.heap.size := by omega); (try have : w.heap.size + 1 + 1 + 1 < w'.heap.size := by omega)))
  all_goals
    (try (go_step3; (try simp only [Exit.then]); (try change Rg.once _ _ _ _ _ _); rw [Rg.once_goto]; go_wp2))
    (try rw [Rg.once_ret])
    (try rw [Exit.noGoto_ret])
    (try change bodyPost _ _ _ _ _ _)
    first
    | (go_returns; refine ⟨?_, ?_⟩)
    | (refine bodyPost_ret (by simp [results, Tryz.results39, go_sem, *]; try rfl) rfl ⟨?_, ?_⟩)
    rotate_left
    · repeat' (first | exact Gr.refl _ | exact Nat.le_refl _ | exact Nat.le_add_right _ _ | refine Gr.setCell ?_ ?_ _ | refine Gr.alloc ?_ _ | refine Gr.drew ?_ | refine Gr.trans ?_ (by assumption) | omega | (dsimp only; omega))
  all_goals rfl
set_option maxHeartbeats 16000000 in
set_option maxRecDepth 100000 in
theorem bkind_in (s : Sv) (aggs in_ : Bool) (rh : Hd) (roa : Option Addr) (rn rc : Nat) (oa : Option Addr) (c : Nat) (l : List Int) (w : World) (hat : AtF iF 1 w oa l) (hb : l.length ≤ 2000000) (hop : rh.op = 16) : Calls Tryz.prog 39 #[s.val aggs in_, XR.val ⟨rh, roa, rn, rc⟩, .slice oa l.length c] w (Kp2 (kindK aggs in_ rh l) w) := by
  have OC : Hid (∀ W, Gr w W → _) := hid (fun W h => bone_any oa c l W (hat.keep h) hb)
  have TT : Hid (∀ many kids kind W, Gr w W → _) := hid (fun many kids kind W h => btyped_any many kids kind oa c l W (hat.keep h) hb)
  have AG : Hid (∀ W, Gr w W → _) := hid (fun W h => bagg_any s aggs in_ rh roa rn rc oa c l W (hat.keep h) hb)
  have CA : Hid (∀ W, Gr w W → _) := hid (fun W h => bcall_any rh roa rn rc oa c l W (hat.keep h) hb)
  clear hat hb
  obtain ⟨fo, fn, fc, no, nn, nc⟩ := s
  obtain ⟨op, ⟨vt, vn, vs, vb⟩, tab, name, t, cc, nt, st⟩ := rh
  obtain rfl : op = 16 := hop
  have HR : Hid (kindK aggs in_ ⟨16, ⟨vt, vn, vs, vb⟩, tab, name, t, cc, nt, st⟩ l = typedK (decide (2 ≤ l.length)) (firstK l) 3 l) := hid rfl
  generalize kindK aggs in_ ⟨16, ⟨vt, vn, vs, vb⟩, tab, name, t, cc, nt, st⟩ l = R at *
  generalize aggK aggs in_ _ l = RA at *
  generalize callK _ l = RC at *
  generalize typedK = TK at *
  generalize firstK l = q at *
  generalize allB q l = B at *
  generalize l.length = n at *
  obtain ⟨b1, e1⟩ : ∃ x, (n == 1) = x := ⟨_, rfl⟩
  obtain ⟨b2, e2⟩ : ∃ x, (n == 2) = x := ⟨_, rfl⟩
  obtain ⟨b3, e3⟩ : ∃ x, (n == 3) = x := ⟨_, rfl⟩
  obtain ⟨b4, e4⟩ : ∃ x, decide (2 ≤ n) = x := ⟨_, rfl⟩
  have i1 : ((n : Int) == 1) = b1 := nat_eq n 1 b1 e1
  have i2 : ((n : Int) == 2) = b2 := nat_eq n 2 b2 e2
  have i3 : ((n : Int) == 3) = b3 := nat_eq n 3 b3 e3
  have i4 : decide ((2 : Int) ≤ (n : Int)) = b4 := nat_ge2 n b4 e4
  rw [e4] at HR
  have TT1 := hid (fun W h => TT.out b4 q 3 W h)
  unfold XR.val Sv.val Kp2 at *
  obtain rfl := HR.out
  clear HR
  go_enter Tryz.func39, Tryz.ntmps39
  go_wp2_with (first | (go_at_call 70; ((with_reducible refine (OC.out _ (((Gr.refl _).alloc _).alloc _)).mono ?_)); rintro e w' ⟨rfl, hg⟩; have hc := hg.cells; have hf := hg.frees; have hz := hg.size; (try simp only [World.size_alloc, World.size_setCell, World.size_drew] at hz); (try have : 0 < w'.heap.size := by omega); (try have : w.heap.size < w'.heap.size := by omega); (try have : w.heap.size + 1 < w'.heap.size := by omega); (try have : w.heap.size + 1 + 1 < w'.heap.size := by omega); (try have : w.heap.size + 1 + 1 + 1 < w'.heap.size := by omega)) | (go_at_call 69; ((with_reducible refine (TT1.out _ ((((Gr.refl _).alloc _).alloc _).trans (by assumption))).mono ?_)); rintro e w' ⟨rfl, hg⟩; have hc := hg.cells; have hf := hg.frees; have hz := hg.size; (try simp only [World.size_alloc, World.size_setCell, World.size_drew] at hz); (try have : 0 < w'.heap.size := by omega); (try have : w.heap.size < w'.heap.size := by omega); (try have : w.heap.size + 1 < w'.heap.size := by omega); (try have : w.heap.size + 1 + 1 < w'.heap.size := by omega); (try have : w.heap.size + 1 + 1 + 1 < w'.heap.size := by omega)))
  all_goals
    (try (go_step3; (try simp only [Exit.then]); (try change Rg.once _ _ _ _ _ _); rw [Rg.once_goto]; go_wp2))
    (try rw [Rg.once_ret])
    (try rw [Exit.noGoto_ret])
    (try change bodyPost _ _ _ _ _ _)
    first
    | (go_returns; refine ⟨?_, ?_⟩)
    | (refine bodyPost_ret (by simp [results, Tryz.results39, go_sem, *]; try rfl) rfl ⟨?_, ?_⟩)
    rotate_left
    · repeat' (first | exact Gr.refl _ | exact Nat.le_refl _ | exact Nat.le_add_right _ _ | refine Gr.setCell ?_ ?_ _ | refine Gr.alloc ?_ _ | refine Gr.drew ?_ | refine Gr.trans ?_ (by assumption) | omega | (dsimp only; omega))
  all_goals rfl
set_option maxHeartbeats 16000000 in
set_option maxRecDepth 100000 in
theorem bkind_between (s : Sv) (aggs in_ : Bool) (rh : Hd) (roa : Option Addr) (rn rc : Nat) (oa : Option Addr) (c : Nat) (l : List Int) (w : World) (hat : AtF iF 1 w oa l) (hb : l.length ≤ 2000000) (hop : rh.op = 17) : Calls Tryz.prog 39 #[s.val aggs in_, XR.val ⟨rh, roa, rn, rc⟩, .slice oa l.length c] w (Kp2 (kindK aggs in_ rh l) w) := by
  have OC : Hid (∀ W, Gr w W → _) := hid (fun W h => bone_any oa c l W (hat.keep h) hb)
  have TT : Hid (∀ many kids kind W, Gr w W → _) := hid (fun many kids kind W h => btyped_any many kids kind oa c l W (hat.keep h) hb)
  have AG : Hid (∀ W, Gr w W → _) := hid (fun W h => bagg_any s aggs in_ rh roa rn rc oa c l W (hat.keep h) hb)
  have CA : Hid (∀ W, Gr w W → _) := hid (fun W h => bcall_any rh roa rn rc oa c l W (hat.keep h) hb)
  clear hat hb
  obtain ⟨fo, fn, fc, no, nn, nc⟩ := s
  obtain ⟨op, ⟨vt, vn, vs, vb⟩, tab, name, t, cc, nt, st⟩ := rh
  obtain rfl : op = 17 := hop
  have HR : Hid (kindK aggs in_ ⟨17, ⟨vt, vn, vs, vb⟩, tab, name, t, cc, nt, st⟩ l = typedK (l.length == 3) (firstK l) 3 l) := hid rfl
  generalize kindK aggs in_ ⟨17, ⟨vt, vn, vs, vb⟩, tab, name, t, cc, nt, st⟩ l = R at *
  generalize aggK aggs in_ _ l = RA at *
  generalize callK _ l = RC at *
  generalize typedK = TK at *
  generalize firstK l = q at *
  generalize allB q l = B at *
  generalize l.length = n at *
  obtain ⟨b1, e1⟩ : ∃ x, (n == 1) = x := ⟨_, rfl⟩
  obtain ⟨b2, e2⟩ : ∃ x, (n == 2) = x := ⟨_, rfl⟩
  obtain ⟨b3, e3⟩ : ∃ x, (n == 3) = x := ⟨_, rfl⟩
  obtain ⟨b4, e4⟩ : ∃ x, decide (2 ≤ n) = x := ⟨_, rfl⟩
  have i1 : ((n : Int) == 1) = b1 := nat_eq n 1 b1 e1
  have i2 : ((n : Int) == 2) = b2 := nat_eq n 2 b2 e2
  have i3 : ((n : Int) == 3) = b3 := nat_eq n 3 b3 e3
  have i4 : decide ((2 : Int) ≤ (n : Int)) = b4 := nat_ge2 n b4 e4
  rw [e3] at HR
  have TT1 := hid (fun W h => TT.out b3 q 3 W h)
  unfold XR.val Sv.val Kp2 at *
  obtain rfl := HR.out
  clear HR
  go_enter Tryz.func39, Tryz.ntmps39
  go_wp2_with (first | (go_at_call 70; ((with_reducible refine (OC.out _ (((Gr.refl _).alloc _).alloc _)).mono ?_)); rintro e w' ⟨rfl, hg⟩; have hc := hg.cells; have hf := hg.frees; have hz := hg.size; (try simp only [World.size_alloc, World.size_setCell, World.size_drew] at hz); (try have : 0 < w'.heap.size := by omega); (try have : w.heap.size < w'.heap.size := by omega); (try have : w.heap.size + 1 < w'.heap.size := by omega); (try have : w.heap.size + 1 + 1 < w'.heap.size := by omega); (try have : w.heap.size + 1 + 1 + 1 < w'.heap.size := by omega)) | (go_at_call 69; ((with_reducible refine (TT1.out _ ((((Gr.refl _).alloc _).alloc _).trans (by assumption))).mono ?_)); rintro e w' ⟨rfl, hg⟩; have hc := hg.cells; have hf := hg.frees; have hz := hg.size; (try simp only [World.size_alloc, World.size_setCell, World.size_drew] at hz); (try have : 0 < w'.heap.size := by omega); (try have : w.heap.size < w'.heap.size := by omega); (try have : w.heap.size + 1 < w'.heap.size := by omega); (try have : w.heap.size + 1 + 1 < w'.heap.size := by omega); (try have : w.heap.size + 1 + 1 + 1 < w'.heap.size := by omega)))
  all_goals
    (try (go_step3; (try simp only [Exit.then]); (try change Rg.once _ _ _ _ _ _); rw [Rg.once_goto]; go_wp2))
    (try rw [Rg.once_ret])
    (try rw [Exit.noGoto_ret])
    (try change bodyPost _ _ _ _ _ _)
    first
    | (go_returns; refine ⟨?_, ?_⟩)
    | (refine bodyPost_ret (by simp [results, Tryz.results39, go_sem, *]; try rfl) rfl ⟨?_, ?_⟩)
    rotate_left
    · repeat' (first | exact Gr.refl _ | exact Nat.le_refl _ | exact Nat.le_add_right _ _ | refine Gr.setCell ?_ ?_ _ | refine Gr.alloc ?_ _ | refine Gr.drew ?_ | refine Gr.trans ?_ (by assumption) | omega | (dsimp only; omega))
  all_goals rfl
set_option maxHeartbeats 16000000 in
set_option maxRecDepth 100000 in
theorem bkind_math (s : Sv) (aggs in_ : Bool) (rh : Hd) (roa : Option Addr) (rn rc : Nat) (oa : Option Addr) (c : Nat) (l : List Int) (w : World) (hat : AtF iF 1 w oa l) (hb : l.length ≤ 2000000) (hop : 18 ≤ rh.op ∧ rh.op ≤ 22) : Calls Tryz.prog 39 #[s.val aggs in_, XR.val ⟨rh, roa, rn, rc⟩, .slice oa l.length c] w (Kp2 (kindK aggs in_ rh l) w) := by
  have OC : Hid (∀ W, Gr w W → _) := hid (fun W h => bone_any oa c l W (hat.keep h) hb)
  have TT : Hid (∀ many kids kind W, Gr w W → _) := hid (fun many kids kind W h => btyped_any many kids kind oa c l W (hat.keep h) hb)
  have AG : Hid (∀ W, Gr w W → _) := hid (fun W h => bagg_any s aggs in_ rh roa rn rc oa c l W (hat.keep h) hb)
  have CA : Hid (∀ W, Gr w W → _) := hid (fun W h => bcall_any rh roa rn rc oa c l W (hat.keep h) hb)
  clear hat hb
  obtain ⟨fo, fn, fc, no, nn, nc⟩ := s
  obtain ⟨op, ⟨vt, vn, vs, vb⟩, tab, name, t, cc, nt, st⟩ := rh
  have hlo : 18 ≤ op := hop.1
  have hhi : op ≤ 22 := hop.2
  have n1 : (op == 1) = false := by rw [beq_eq_false_iff_ne]; omega
  have n4 : (op == 4) = false := by rw [beq_eq_false_iff_ne]; omega
  have n5 : (op == 5) = false := by rw [beq_eq_false_iff_ne]; omega
  have n8 : (op == 8) = false := by rw [beq_eq_false_iff_ne]; omega
  have n6 : (op == 6) = false := by rw [beq_eq_false_iff_ne]; omega
  have n7 : (op == 7) = false := by rw [beq_eq_false_iff_ne]; omega
  have n24 : (op == 24) = false := by rw [beq_eq_false_iff_ne]; omega
  have n15 : (op == 15) = false := by rw [beq_eq_false_iff_ne]; omega
  have n16 : (op == 16) = false := by rw [beq_eq_false_iff_ne]; omega
  have n17 : (op == 17) = false := by rw [beq_eq_false_iff_ne]; omega
  have n23 : (op == 23) = false := by rw [beq_eq_false_iff_ne]; omega
  have r1 : decide (18 ≤ op) = true := decide_eq_true hlo
  have r2 : decide (op ≤ 22) = true := decide_eq_true hhi
  have HR : Hid (kindK aggs in_ ⟨op, ⟨vt, vn, vs, vb⟩, tab, name, t, cc, nt, st⟩ l = typedK (l.length == 2) 1 1 l) := hid (by unfold kindK; simp only [n1, n4, n5, n8, n6, n7, n24, n15, n16, n17, n23, r1, r2, Bool.or_self, Bool.false_and, Bool.true_and, Bool.and_self, Bool.and_false, Bool.false_eq_true, if_false, if_true])
  clear hlo hhi hop
  generalize kindK aggs in_ ⟨op, ⟨vt, vn, vs, vb⟩, tab, name, t, cc, nt, st⟩ l = R at *
  generalize aggK aggs in_ _ l = RA at *
  generalize callK _ l = RC at *
  generalize typedK = TK at *
  generalize firstK l = q at *
  generalize allB q l = B at *
  generalize l.length = n at *
  obtain ⟨b1, e1⟩ : ∃ x, (n == 1) = x := ⟨_, rfl⟩
  obtain ⟨b2, e2⟩ : ∃ x, (n == 2) = x := ⟨_, rfl⟩
  obtain ⟨b3, e3⟩ : ∃ x, (n == 3) = x := ⟨_, rfl⟩
  obtain ⟨b4, e4⟩ : ∃ x, decide (2 ≤ n) = x := ⟨_, rfl⟩
  have i1 : ((n : Int) == 1) = b1 := nat_eq n 1 b1 e1
  have i2 : ((n : Int) == 2) = b2 := nat_eq n 2 b2 e2
  have i3 : ((n : Int) == 3) = b3 := nat_eq n 3 b3 e3
  have i4 : decide ((2 : Int) ≤ (n : Int)) = b4 := nat_ge2 n b4 e4
  rw [e2] at HR
  have TT1 := hid (fun W h => TT.out b2 1 1 W h)
  unfold XR.val Sv.val Kp2 at *
  obtain rfl := HR.out
  clear HR
  go_enter Tryz.func39, Tryz.ntmps39
  go_wp2_with (first | (go_at_call 69; ((with_reducible refine (TT1.out _ (((Gr.refl _).alloc _).alloc _)).mono ?_)); rintro e w' ⟨rfl, hg⟩; have hc := hg.cells; have hf := hg.frees; have hz := hg.size; (try simp only [World.size_alloc, World.size_setCell, World.size_drew] at hz); (try have : 0 < w'.heap.size := by omega); (try have : w.heap.size < w'.heap.size := by omega); (try have : w.heap.size + 1 < w'.heap.size := by omega); (try have : w.heap.size + 1 + 1 < w'.heap.size := by omega); (try have : w.heap.size + 1 + 1 + 1 < w'.heap.size := by omega)))
  all_goals
    (try (go_step3; (try simp only [Exit.then]); (try change Rg.once _ _ _ _ _ _); rw [Rg.once_goto]; go_wp2))
    (try rw [Rg.once_ret])
    (try rw [Exit.noGoto_ret])
    (try change bodyPost _ _ _ _ _ _)
    first
    | (go_returns; refine ⟨?_, ?_⟩)
    | (refine bodyPost_ret (by simp [results, Tryz.results39, go_sem, *]; try rfl) rfl ⟨?_, ?_⟩)
    rotate_left
    · repeat' (first | exact Gr.refl _ | exact Nat.le_refl _ | exact Nat.le_add_right _ _ | refine Gr.setCell ?_ ?_ _ | refine Gr.alloc ?_ _ | refine Gr.drew ?_ | refine Gr.trans ?_ (by assumption) | omega | (dsimp only; omega))
  all_goals rfl
set_option maxHeartbeats 16000000 in
set_option maxRecDepth 100000 in
theorem bkind_less (s : Sv) (aggs in_ : Bool) (rh : Hd) (roa : Option Addr) (rn rc : Nat) (oa : Option Addr) (c : Nat) (l : List Int) (w : World) (hat : AtF iF 1 w oa l) (hb : l.length ≤ 2000000) (hop : 9 ≤ rh.op ∧ rh.op ≤ 14) : Calls Tryz.prog 39 #[s.val aggs in_, XR.val ⟨rh, roa, rn, rc⟩, .slice oa l.length c] w (Kp2 (kindK aggs in_ rh l) w) := by
  have OC : Hid (∀ W, Gr w W → _) := hid (fun W h => bone_any oa c l W (hat.keep h) hb)
  have TT : Hid (∀ many kids kind W, Gr w W → _) := hid (fun many kids kind W h => btyped_any many kids kind oa c l W (hat.keep h) hb)
  have AG : Hid (∀ W, Gr w W → _) := hid (fun W h => bagg_any s aggs in_ rh roa rn rc oa c l W (hat.keep h) hb)
  have CA : Hid (∀ W, Gr w W → _) := hid (fun W h => bcall_any rh roa rn rc oa c l W (hat.keep h) hb)
  clear hat hb
  obtain ⟨fo, fn, fc, no, nn, nc⟩ := s
  obtain ⟨op, ⟨vt, vn, vs, vb⟩, tab, name, t, cc, nt, st⟩ := rh
  have hlo : 9 ≤ op := hop.1
  have hhi : op ≤ 14 := hop.2
  have n1 : (op == 1) = false := by rw [beq_eq_false_iff_ne]; omega
  have n4 : (op == 4) = false := by rw [beq_eq_false_iff_ne]; omega
  have n5 : (op == 5) = false := by rw [beq_eq_false_iff_ne]; omega
  have n8 : (op == 8) = false := by rw [beq_eq_false_iff_ne]; omega
  have n6 : (op == 6) = false := by rw [beq_eq_false_iff_ne]; omega
  have n7 : (op == 7) = false := by rw [beq_eq_false_iff_ne]; omega
  have n24 : (op == 24) = false := by rw [beq_eq_false_iff_ne]; omega
  have n15 : (op == 15) = false := by rw [beq_eq_false_iff_ne]; omega
  have n16 : (op == 16) = false := by rw [beq_eq_false_iff_ne]; omega
  have n17 : (op == 17) = false := by rw [beq_eq_false_iff_ne]; omega
  have n23 : (op == 23) = false := by rw [beq_eq_false_iff_ne]; omega
  have r1 : decide (18 ≤ op) = false := decide_eq_false (by omega)
  have r2 : decide (op ≤ 22) = true := decide_eq_true (by omega)
  have r3 : decide (9 ≤ op) = true := decide_eq_true hlo
  have r4 : decide (op ≤ 14) = true := decide_eq_true hhi
  have HR : Hid (kindK aggs in_ ⟨op, ⟨vt, vn, vs, vb⟩, tab, name, t, cc, nt, st⟩ l = typedK (l.length == 2) (firstK l) 3 l) := hid (by unfold kindK; simp only [n1, n4, n5, n8, n6, n7, n24, n15, n16, n17, n23, r1, r2, r3, r4, Bool.or_self, Bool.false_and, Bool.true_and, Bool.and_self, Bool.and_false, Bool.false_eq_true, if_false, if_true])
  clear hlo hhi hop
  generalize kindK aggs in_ ⟨op, ⟨vt, vn, vs, vb⟩, tab, name, t, cc, nt, st⟩ l = R at *
  generalize aggK aggs in_ _ l = RA at *
  generalize callK _ l = RC at *
  generalize typedK = TK at *
  generalize firstK l = q at *
  generalize allB q l = B at *
  generalize l.length = n at *
  obtain ⟨b1, e1⟩ : ∃ x, (n == 1) = x := ⟨_, rfl⟩
  obtain ⟨b2, e2⟩ : ∃ x, (n == 2) = x := ⟨_, rfl⟩
  obtain ⟨b3, e3⟩ : ∃ x, (n == 3) = x := ⟨_, rfl⟩
  obtain ⟨b4, e4⟩ : ∃ x, decide (2 ≤ n) = x := ⟨_, rfl⟩
  have i1 : ((n : Int) == 1) = b1 := nat_eq n 1 b1 e1
  have i2 : ((n : Int) == 2) = b2 := nat_eq n 2 b2 e2
  have i3 : ((n : Int) == 3) = b3 := nat_eq n 3 b3 e3
  have i4 : decide ((2 : Int) ≤ (n : Int)) = b4 := nat_ge2 n b4 e4
  rw [e2] at HR
  have TT1 := hid (fun W h => TT.out b2 q 3 W h)
  unfold XR.val Sv.val Kp2 at *
  obtain rfl := HR.out
  clear HR
  go_enter Tryz.func39, Tryz.ntmps39
  go_wp2_with (first | (go_at_call 70; ((with_reducible refine (OC.out _ (((Gr.refl _).alloc _).alloc _)).mono ?_)); rintro e w' ⟨rfl, hg⟩; have hc := hg.cells; have hf := hg.frees; have hz := hg.size; (try simp only [World.size_alloc, World.size_setCell, World.size_drew] at hz); (try have : 0 < w'.heap.size := by omega); (try have : w.heap.size < w'.heap.size := by omega); (try have : w.heap.size + 1 < w'.heap.size := by omega); (try have : w.heap.size + 1 + 1 < w'.heap.size := by omega); (try have : w.heap.size + 1 + 1 + 1 < w'.heap.size := by omega)) | (go_at_call 69; ((with_reducible refine (TT1.out _ ((((Gr.refl _).alloc _).alloc _).trans (by assumption))).mono ?_)); rintro e w' ⟨rfl, hg⟩; have hc := hg.cells; have hf := hg.frees; have hz := hg.size; (try simp only [World.size_alloc, World.size_setCell, World.size_drew] at hz); (try have : 0 < w'.heap.size := by omega); (try have : w.heap.size < w'.heap.size := by omega); (try have : w.heap.size + 1 < w'.heap.size := by omega); (try have : w.heap.size + 1 + 1 < w'.heap.size := by omega); (try have : w.heap.size + 1 + 1 + 1 < w'.heap.size := by omega)))
  all_goals
    (try (go_step3; (try simp only [Exit.then]); (try change Rg.once _ _ _ _ _ _); rw [Rg.once_goto]; go_wp2))
    (try rw [Rg.once_ret])
    (try rw [Exit.noGoto_ret])
    (try change bodyPost _ _ _ _ _ _)
    first
    | (go_returns; refine ⟨?_, ?_⟩)
    | (refine bodyPost_ret (by simp [results, Tryz.results39, go_sem, *]; try rfl) rfl ⟨?_, ?_⟩)
    rotate_left
    · repeat' (first | exact Gr.refl _ | exact Nat.le_refl _ | exact Nat.le_add_right _ _ | refine Gr.setCell ?_ ?_ _ | refine Gr.alloc ?_ _ | refine Gr.drew ?_ | refine Gr.trans ?_ (by assumption) | omega | (dsimp only; omega))
  all_goals rfl
set_option maxHeartbeats 16000000 in
set_option maxRecDepth 100000 in
theorem bkind_agg (s : Sv) (aggs in_ : Bool) (rh : Hd) (roa : Option Addr) (rn rc : Nat) (oa : Option Addr) (c : Nat) (l : List Int) (w : World) (hat : AtF iF 1 w oa l) (hb : l.length ≤ 2000000) (hop : rh.op = 4) : Calls Tryz.prog 39 #[s.val aggs in_, XR.val ⟨rh, roa, rn, rc⟩, .slice oa l.length c] w (Kp2 (kindK aggs in_ rh l) w) := by
  have OC : Hid (∀ W, Gr w W → _) := hid (fun W h => bone_any oa c l W (hat.keep h) hb)
  have TT : Hid (∀ many kids kind W, Gr w W → _) := hid (fun many kids kind W h => btyped_any many kids kind oa c l W (hat.keep h) hb)
  have AG : Hid (∀ W, Gr w W → _) := hid (fun W h => bagg_any s aggs in_ rh roa rn rc oa c l W (hat.keep h) hb)
  have CA : Hid (∀ W, Gr w W → _) := hid (fun W h => bcall_any rh roa rn rc oa c l W (hat.keep h) hb)
  clear hat hb
  obtain ⟨fo, fn, fc, no, nn, nc⟩ := s
  obtain ⟨op, ⟨vt, vn, vs, vb⟩, tab, name, t, cc, nt, st⟩ := rh
  obtain rfl : op = 4 := hop
  have HR : Hid (kindK aggs in_ ⟨4, ⟨vt, vn, vs, vb⟩, tab, name, t, cc, nt, st⟩ l = aggK aggs in_ ⟨4, ⟨vt, vn, vs, vb⟩, tab, name, t, cc, nt, st⟩ l) := hid rfl
  generalize kindK aggs in_ ⟨4, ⟨vt, vn, vs, vb⟩, tab, name, t, cc, nt, st⟩ l = R at *
  generalize aggK aggs in_ _ l = RA at *
  generalize callK _ l = RC at *
  generalize typedK = TK at *
  generalize firstK l = q at *
  generalize allB q l = B at *
  generalize l.length = n at *
  unfold XR.val Sv.val Kp2 at *
  obtain rfl := HR.out
  clear HR
  go_enter Tryz.func39, Tryz.ntmps39
  go_wp2_with (first | (go_at_call 67; ((with_reducible refine (AG.out _ (((Gr.refl _).alloc _).alloc _)).mono ?_)); rintro e w' ⟨rfl, hg⟩; have hc := hg.cells; have hf := hg.frees; have hz := hg.size; (try simp only [World.size_alloc, World.size_setCell, World.size_drew] at hz); (try have : 0 < w'.heap.size := by omega); (try have : w.heap.size < w'.heap.size := by omega); (try have : w.heap.size + 1 < w'.heap.size := by omega); (try have : w.heap.size + 1 + 1 < w'.heap.size := by omega); (try have : w.heap.size + 1 + 1 + 1 < w'.heap.size := by omega)))
  all_goals
    (try (go_step3; (try simp only [Exit.then]); (try change Rg.once _ _ _ _ _ _); rw [Rg.once_goto]; go_wp2))
    (try rw [Rg.once_ret])
    (try rw [Exit.noGoto_ret])
    (try change bodyPost _ _ _ _ _ _)
    first
    | (go_returns; refine ⟨?_, ?_⟩)
    | (refine bodyPost_ret (by simp [results, Tryz.results39, go_sem, *]; try rfl) rfl ⟨?_, ?_⟩)
    rotate_left
    · repeat' (first | exact Gr.refl _ | exact Nat.le_refl _ | exact Nat.le_add_right _ _ | refine Gr.setCell ?_ ?_ _ | refine Gr.alloc ?_ _ | refine Gr.drew ?_ | refine Gr.trans ?_ (by assumption) | omega | (dsimp only; omega))
  all_goals rfl
set_option maxHeartbeats 16000000 in
set_option maxRecDepth 100000 in
theorem bkind_call (s : Sv) (aggs in_ : Bool) (rh : Hd) (roa : Option Addr) (rn rc : Nat) (oa : Option Addr) (c : Nat) (l : List Int) (w : World) (hat : AtF iF 1 w oa l) (hb : l.length ≤ 2000000) (hop : rh.op = 5) : Calls Tryz.prog 39 #[s.val aggs in_, XR.val ⟨rh, roa, rn, rc⟩, .slice oa l.length c] w (Kp2 (kindK aggs in_ rh l) w) := by
  have OC : Hid (∀ W, Gr w W → _) := hid (fun W h => bone_any oa c l W (hat.keep h) hb)
  have TT : Hid (∀ many kids kind W, Gr w W → _) := hid (fun many kids kind W h => btyped_any many kids kind oa c l W (hat.keep h) hb)
  have AG : Hid (∀ W, Gr w W → _) := hid (fun W h => bagg_any s aggs in_ rh roa rn rc oa c l W (hat.keep h) hb)
  have CA : Hid (∀ W, Gr w W → _) := hid (fun W h => bcall_any rh roa rn rc oa c l W (hat.keep h) hb)
  clear hat hb
  obtain ⟨fo, fn, fc, no, nn, nc⟩ := s
  obtain ⟨op, ⟨vt, vn, vs, vb⟩, tab, name, t, cc, nt, st⟩ := rh
  obtain rfl : op = 5 := hop
  have HR : Hid (kindK aggs in_ ⟨5, ⟨vt, vn, vs, vb⟩, tab, name, t, cc, nt, st⟩ l = callK ⟨5, ⟨vt, vn, vs, vb⟩, tab, name, t, cc, nt, st⟩ l) := hid rfl
  generalize kindK aggs in_ ⟨5, ⟨vt, vn, vs, vb⟩, tab, name, t, cc, nt, st⟩ l = R at *
  generalize aggK aggs in_ _ l = RA at *
  generalize callK _ l = RC at *
  generalize typedK = TK at *
  generalize firstK l = q at *
  generalize allB q l = B at *
  generalize l.length = n at *
  unfold XR.val Sv.val Kp2 at *
  obtain rfl := HR.out
  clear HR
  go_enter Tryz.func39, Tryz.ntmps39
  go_wp2_with (first | (go_at_call 68; ((with_reducible refine (CA.out _ (((Gr.refl _).alloc _).alloc _)).mono ?_)); rintro e w' ⟨rfl, hg⟩; have hc := hg.cells; have hf := hg.frees; have hz := hg.size; (try simp only [World.size_alloc, World.size_setCell, World.size_drew] at hz); (try have : 0 < w'.heap.size := by omega); (try have : w.heap.size < w'.heap.size := by omega); (try have : w.heap.size + 1 < w'.heap.size := by omega); (try have : w.heap.size + 1 + 1 < w'.heap.size := by omega); (try have : w.heap.size + 1 + 1 + 1 < w'.heap.size := by omega)))
  all_goals
    (try (go_step3; (try simp only [Exit.then]); (try change Rg.once _ _ _ _ _ _); rw [Rg.once_goto]; go_wp2))
    (try rw [Rg.once_ret])
    (try rw [Exit.noGoto_ret])
    (try change bodyPost _ _ _ _ _ _)
    first
    | (go_returns; refine ⟨?_, ?_⟩)
    | (refine bodyPost_ret (by simp [results, Tryz.results39, go_sem, *]; try rfl) rfl ⟨?_, ?_⟩)
    rotate_left
    · repeat' (first | exact Gr.refl _ | exact Nat.le_refl _ | exact Nat.le_add_right _ _ | refine Gr.setCell ?_ ?_ _ | refine Gr.alloc ?_ _ | refine Gr.drew ?_ | refine Gr.trans ?_ (by assumption) | omega | (dsimp only; omega))
  all_goals rfl
set_option maxHeartbeats 16000000 in
set_option maxRecDepth 100000 in
theorem bkind_lit (s : Sv) (aggs in_ : Bool) (rh : Hd) (roa : Option Addr) (rn rc : Nat) (oa : Option Addr) (c : Nat) (l : List Int) (w : World) (hat : AtF iF 1 w oa l) (hb : l.length ≤ 2000000) (hop : rh.op = 1) : Calls Tryz.prog 39 #[s.val aggs in_, XR.val ⟨rh, roa, rn, rc⟩, .slice oa l.length c] w (Kp2 (kindK aggs in_ rh l) w) := by
  have OC : Hid (∀ W, Gr w W → _) := hid (fun W h => bone_any oa c l W (hat.keep h) hb)
  have TT : Hid (∀ many kids kind W, Gr w W → _) := hid (fun many kids kind W h => btyped_any many kids kind oa c l W (hat.keep h) hb)
  have AG : Hid (∀ W, Gr w W → _) := hid (fun W h => bagg_any s aggs in_ rh roa rn rc oa c l W (hat.keep h) hb)
  have CA : Hid (∀ W, Gr w W → _) := hid (fun W h => bcall_any rh roa rn rc oa c l W (hat.keep h) hb)
  clear hat hb
  obtain ⟨fo, fn, fc, no, nn, nc⟩ := s
  obtain ⟨op, ⟨vt, vn, vs, vb⟩, tab, name, t, cc, nt, st⟩ := rh
  obtain rfl : op = 1 := hop
  have HR : Hid (kindK aggs in_ ⟨1, ⟨vt, vn, vs, vb⟩, tab, name, t, cc, nt, st⟩ l = if l.length != 0 || decide (vt < 0) || decide (3 < vt) then (0, 1) else (vt, 0)) := hid rfl
  generalize kindK aggs in_ ⟨1, ⟨vt, vn, vs, vb⟩, tab, name, t, cc, nt, st⟩ l = R at *
  generalize aggK aggs in_ _ l = RA at *
  generalize callK _ l = RC at *
  generalize typedK = TK at *
  generalize firstK l = q at *
  generalize allB q l = B at *
  generalize l.length = n at *
  clear OC TT AG CA
  obtain ⟨x1, e1⟩ : ∃ x, (n == 0) = x := ⟨_, rfl⟩
  obtain ⟨x2, e2⟩ : ∃ x, decide (vt < 0) = x := ⟨_, rfl⟩
  obtain ⟨x3, e3⟩ : ∃ x, decide (3 < vt) = x := ⟨_, rfl⟩
  have i1 : ((n : Int) != 0) = !x1 := nat_ne n 0 x1 e1
  have i1n : (n != 0) = !x1 := by rw [← e1]; rfl
  rw [i1n, e2, e3] at HR
  unfold XR.val Sv.val Kp2 at *
  cases x1 <;> cases x2 <;> cases x3
  all_goals
    obtain rfl := HR.out
    clear HR
    go_enter Tryz.func39, Tryz.ntmps39
    go_wp2
    all_goals
      (try (go_step3; (try simp only [Exit.then]); (try change Rg.once _ _ _ _ _ _); rw [Rg.once_goto]; go_wp2))
      (try rw [Rg.once_ret])
      (try rw [Exit.noGoto_ret])
      (try change bodyPost _ _ _ _ _ _)
      first
      | (go_returns; refine ⟨?_, ?_⟩)
      | (refine bodyPost_ret (by simp [results, Tryz.results39, go_sem, *]; try rfl) rfl ⟨?_, ?_⟩)
      rotate_left
      · repeat' (first | exact Gr.refl _ | exact Nat.le_refl _ | exact Nat.le_add_right _ _ | refine Gr.setCell ?_ ?_ _ | refine Gr.alloc ?_ _ | refine Gr.drew ?_ | refine Gr.trans ?_ (by assumption) | omega | (dsimp only; omega))
    all_goals rfl
set_option maxHeartbeats 16000000 in
set_option maxRecDepth 100000 in
theorem bkind_else (s : Sv) (aggs in_ : Bool) (rh : Hd) (roa : Option Addr) (rn rc : Nat) (oa : Option Addr) (c : Nat) (l : List Int) (w : World) (hat : AtF iF 1 w oa l) (hb : l.length ≤ 2000000) (hno : ¬ (rh.op = 1 ∨ rh.op = 4 ∨ rh.op = 5 ∨ rh.op = 6 ∨ rh.op = 7 ∨ rh.op = 8 ∨ (9 ≤ rh.op ∧ rh.op ≤ 24))) : Calls Tryz.prog 39 #[s.val aggs in_, XR.val ⟨rh, roa, rn, rc⟩, .slice oa l.length c] w (Kp2 (kindK aggs in_ rh l) w) := by
  have OC : Hid (∀ W, Gr w W → _) := hid (fun W h => bone_any oa c l W (hat.keep h) hb)
  have TT : Hid (∀ many kids kind W, Gr w W → _) := hid (fun many kids kind W h => btyped_any many kids kind oa c l W (hat.keep h) hb)
  have AG : Hid (∀ W, Gr w W → _) := hid (fun W h => bagg_any s aggs in_ rh roa rn rc oa c l W (hat.keep h) hb)
  have CA : Hid (∀ W, Gr w W → _) := hid (fun W h => bcall_any rh roa rn rc oa c l W (hat.keep h) hb)
  clear hat hb
  obtain ⟨fo, fn, fc, no, nn, nc⟩ := s
  obtain ⟨op, ⟨vt, vn, vs, vb⟩, tab, name, t, cc, nt, st⟩ := rh
  have hno : ¬ (op = 1 ∨ op = 4 ∨ op = 5 ∨ op = 6 ∨ op = 7 ∨ op = 8 ∨ (9 ≤ op ∧ op ≤ 24)) := hno
  have n1 : (op == 1) = false := by rw [beq_eq_false_iff_ne]; omega
  have n4 : (op == 4) = false := by rw [beq_eq_false_iff_ne]; omega
  have n5 : (op == 5) = false := by rw [beq_eq_false_iff_ne]; omega
  have n8 : (op == 8) = false := by rw [beq_eq_false_iff_ne]; omega
  have n6 : (op == 6) = false := by rw [beq_eq_false_iff_ne]; omega
  have n7 : (op == 7) = false := by rw [beq_eq_false_iff_ne]; omega
  have n24 : (op == 24) = false := by rw [beq_eq_false_iff_ne]; omega
  have n15 : (op == 15) = false := by rw [beq_eq_false_iff_ne]; omega
  have n16 : (op == 16) = false := by rw [beq_eq_false_iff_ne]; omega
  have n17 : (op == 17) = false := by rw [beq_eq_false_iff_ne]; omega
  have n23 : (op == 23) = false := by rw [beq_eq_false_iff_ne]; omega
  have r0 : (decide (18 ≤ op) && decide (op ≤ 22)) = false := by
    rw [Bool.and_eq_false_iff, decide_eq_false_iff_not, decide_eq_false_iff_not]
    by_cases h : 18 ≤ op
    · exact .inr (fun h2 => by omega)
    · exact .inl h
  have r9 : (decide (9 ≤ op) && decide (op ≤ 14)) = false := by
    rw [Bool.and_eq_false_iff, decide_eq_false_iff_not, decide_eq_false_iff_not]
    by_cases h : 9 ≤ op
    · exact .inr (fun h2 => by omega)
    · exact .inl h
  have HR : Hid (kindK aggs in_ ⟨op, ⟨vt, vn, vs, vb⟩, tab, name, t, cc, nt, st⟩ l = (0, 1)) := hid (by unfold kindK; simp only [n1, n4, n5, n8, n6, n7, n24, n15, n16, n17, n23, r0, r9, Bool.or_self, Bool.false_eq_true, if_false])
  clear hno
  generalize kindK aggs in_ ⟨op, ⟨vt, vn, vs, vb⟩, tab, name, t, cc, nt, st⟩ l = R at *
  generalize aggK aggs in_ _ l = RA at *
  generalize callK _ l = RC at *
  generalize typedK = TK at *
  generalize firstK l = q at *
  generalize allB q l = B at *
  generalize l.length = n at *
  clear TT AG CA
  obtain ⟨y1, r1⟩ : ∃ x, decide (18 ≤ op) = x := ⟨_, rfl⟩
  obtain ⟨y2, r2⟩ : ∃ x, decide (op ≤ 22) = x := ⟨_, rfl⟩
  obtain ⟨y3, r3⟩ : ∃ x, decide (9 ≤ op) = x := ⟨_, rfl⟩
  obtain ⟨y4, r4⟩ : ∃ x, decide (op ≤ 14) = x := ⟨_, rfl⟩
  rw [r1, r2] at r0
  rw [r3, r4] at r9
  unfold XR.val Sv.val Kp2 at *
  obtain rfl := HR.out
  clear HR
  cases y1 <;> cases y2 <;> cases y3 <;> cases y4
  all_goals first | (cases r0; done) | (cases r9; done) | skip
  all_goals
    clear r0 r9
    go_enter Tryz.func39, Tryz.ntmps39
    go_wp2_with (first | (go_at_call 70; ((with_reducible refine (OC.out _ (((Gr.refl _).alloc _).alloc _)).mono ?_)); rintro e w' ⟨rfl, hg⟩; have hc := hg.cells; have hf := hg.frees; have hz := hg.size; (try simp only [World.size_alloc, World.size_setCell, World.size_drew] at hz); (try have : 0 < w'.heap.size := by omega); (try have : w.heap.size < w'.heap.size := by omega); (try have : w.heap.size + 1 < w'.heap.size := by omega); (try have : w.heap.size + 1 + 1 < w'.heap.size := by omega); (try have : w.heap.size + 1 + 1 + 1 < w'.heap.size := by omega)))
    all_goals
      (try (go_step3; (try simp only [Exit.then]); (try change Rg.once _ _ _ _ _ _); rw [Rg.once_goto]; go_wp2))
      (try rw [Rg.once_ret])
      (try rw [Exit.noGoto_ret])
      (try change bodyPost _ _ _ _ _ _)
      first
      | (go_returns; refine ⟨?_, ?_⟩)
      | (refine bodyPost_ret (by simp [results, Tryz.results39, go_sem, *]; try rfl) rfl ⟨?_, ?_⟩)
      rotate_left
      · repeat' (first | exact Gr.refl _ | exact Nat.le_refl _ | exact Nat.le_add_right _ _ | refine Gr.setCell ?_ ?_ _ | refine Gr.alloc ?_ _ | refine Gr.drew ?_ | refine Gr.trans ?_ (by assumption) | omega | (dsimp only; omega))
    all_goals rfl
theorem bkind_any (s : Sv) (aggs in_ : Bool) (rh : Hd) (roa : Option Addr) (rn rc : Nat) (oa : Option Addr) (c : Nat) (l : List Int) (w : World) (hat : AtF iF 1 w oa l) (hb : l.length ≤ 2000000) : Calls Tryz.prog 39 #[s.val aggs in_, XR.val ⟨rh, roa, rn, rc⟩, .slice oa l.length c] w (Kp2 (kindK aggs in_ rh l) w) := by
  by_cases hno : rh.op = 1 ∨ rh.op = 4 ∨ rh.op = 5 ∨ rh.op = 6 ∨ rh.op = 7 ∨ rh.op = 8 ∨ (9 ≤ rh.op ∧ rh.op ≤ 24)
  · rcases hno with h | h | h | h | h | h | h
    · exact bkind_lit s aggs in_ rh roa rn rc oa c l w hat hb h
    · exact bkind_agg s aggs in_ rh roa rn rc oa c l w hat hb h
    · exact bkind_call s aggs in_ rh roa rn rc oa c l w hat hb h
    · exact bkind_or s aggs in_ rh roa rn rc oa c l w hat hb h
    · exact bkind_and s aggs in_ rh roa rn rc oa c l w hat hb h
    · exact bkind_not s aggs in_ rh roa rn rc oa c l w hat hb h
    · by_cases h1 : rh.op ≤ 14
      · exact bkind_less s aggs in_ rh roa rn rc oa c l w hat hb ⟨h.1, h1⟩
      by_cases h2 : rh.op = 15
      · exact bkind_null s aggs in_ rh roa rn rc oa c l w hat hb h2
      by_cases h3 : rh.op = 16
      · exact bkind_in s aggs in_ rh roa rn rc oa c l w hat hb h3
      by_cases h4 : rh.op = 17
      · exact bkind_between s aggs in_ rh roa rn rc oa c l w hat hb h4
      by_cases h5 : rh.op ≤ 22
      · exact bkind_math s aggs in_ rh roa rn rc oa c l w hat hb ⟨by omega, h5⟩
      by_cases h6 : rh.op = 23
      · exact bkind_cat s aggs in_ rh roa rn rc oa c l w hat hb h6
      · exact bkind_neg s aggs in_ rh roa rn rc oa c l w hat hb (by omega)
  · exact bkind_else s aggs in_ rh roa rn rc oa c l w hat hb hno
end Go.Proofs.YtbeinfhgfflneaaGreat
end
section
namespace Go.Proofs.YtbeinfhgfflneaaGreat
open Go.RowKit
set_option linter.unusedVariables false
def SameV (u u' : Value) : Prop := u = u' ∨ ∃ oa n c c', u = .slice oa n c ∧ u' = .slice oa n c' ∧ n ≤ c'
theorem SameV.refl (u : Value) : SameV u u := .inl rfl
theorem SameV.trans {u v x : Value} (h : SameV u v) (k : SameV v x) : SameV u x := by
  rcases h with rfl | ⟨oa, n, c, c', rfl, rfl, h3⟩
  · exact k
  · rcases k with rfl | ⟨oa2, n2, c2, c2', h1, rfl, h4⟩
    · exact .inr ⟨_, _, _, _, rfl, rfl, h3⟩
    · cases h1; exact .inr ⟨_, _, _, _, rfl, rfl, h4⟩
structure Cl (S : Nat → Prop) (w w' : World) : Prop where
  os : w'.os = w.os
  tape : w'.tape = w.tape
  output : w'.output = w.output
  size : w.heap.size ≤ w'.heap.size
  cell : ∀ b k u, w.cell? ⟨b, k, none⟩ = some u → ∃ u', w'.cell? ⟨b, k, none⟩ = some u' ∧ SameV u u'
  free : ∀ b k, b < w.heap.size → w'.frozen? ⟨b, k, none⟩ = w.frozen? ⟨b, k, none⟩
  block : ∀ b, b < w.heap.size → ¬ S b → w'.heap[b]? = w.heap[b]?
theorem Cl.of {S : Nat → Prop} {w w' : World} (h : Gr w w') : Cl S w w' := ⟨h.os, h.tape, h.output, h.size, fun b k u hu => ⟨u, h.keep hu, .refl u⟩, fun b k hb => h.frees b k hb, fun b hb _ => h.block b hb⟩
theorem Cl.refl (S : Nat → Prop) (w : World) : Cl S w w := .of (Gr.refl w)
theorem Cl.trans {S : Nat → Prop} {a b c : World} (h : Cl S a b) (k : Cl S b c) : Cl S a c := by
  refine ⟨k.os.trans h.os, k.tape.trans h.tape, k.output.trans h.output, Nat.le_trans h.size k.size, fun i j u hu => ?_, fun i j hi => ?_, fun i hi hS => ?_⟩
  · obtain ⟨u1, h1, s1⟩ := h.cell i j u hu
    obtain ⟨u2, h2, s2⟩ := k.cell i j u1 h1
    exact ⟨u2, h2, s1.trans s2⟩
  · rw [k.free i j (Nat.lt_of_lt_of_le hi h.size), h.free i j hi]
  · rw [k.block i (Nat.lt_of_lt_of_le hi h.size) hS, h.block i hi hS]
theorem Cl.mono {S S' : Nat → Prop} {w w' : World} (h : Cl S w w') (hS : ∀ b, b < w.heap.size → S b → S' b) : Cl S' w w' := ⟨h.os, h.tape, h.output, h.size, h.cell, h.free, fun b hb hn => h.block b hb (fun hs => hn (hS b hb hs))⟩
theorem Cl.gr {S : Nat → Prop} {a w w' : World} (h : Gr a w) (k : Cl S w w') (hS : ∀ b, S b → a.heap.size ≤ b) : Gr a w' :=
  ⟨k.os.trans h.os, k.tape.trans h.tape, k.output.trans h.output, Nat.le_trans h.size k.size, fun i hi => (k.block i (Nat.lt_of_lt_of_le hi h.size) (fun hs => by have := hS i hs; omega)).trans (h.block i hi)⟩
theorem Cl.cellv {S : Nat → Prop} {w : World} {b k : Nat} {u u' : Value} (h : w.cell? ⟨b, k, none⟩ = some u) (hu : SameV u u') (hS : S b) : Cl S w (w.setCell ⟨b, k, none⟩ u') := by
  refine ⟨rfl, rfl, rfl, by simp, fun i j x hx => ?_, fun i j hi => World.frozen?_setCell _ _ _ _, fun i hi hn => Below.heap_setCell _ _ _ i (fun e => hn (by rw [e]; exact hS))⟩
  by_cases e : (⟨b, k, none⟩ : Addr) = ⟨i, j, none⟩
  · cases e
    rw [h] at hx
    cases hx
    exact ⟨_, World.cell?_setCell_same _ _ _ h, hu⟩
  · exact ⟨x, by rw [World.cell?_setCell_other _ _ _ _ e]; exact hx, .refl x⟩
theorem Cl.cellsv {S : Nat → Prop} {b : Nat} (hS : S b) : ∀ (vs : List Value) (o : Nat) (w : World), (∀ j u', vs[j]? = some u' → ∃ u, w.cell? ⟨b, o + j, none⟩ = some u ∧ SameV u u') → Cl S w (w.setCells b o vs)
  | [], o, w, h => .refl S w
  | v :: vs, o, w, h => by
    obtain ⟨u, hu, hs⟩ := h 0 v rfl
    have h1 := Cl.cellv (S := S) (by simpa using hu) hs hS
    refine h1.trans (Cl.cellsv hS vs (o + 1) _ (fun j u' hj => ?_))
    obtain ⟨x, hx, hs'⟩ := h (j + 1) u' (by simpa using hj)
    refine ⟨x, ?_, hs'⟩
    rw [World.cell?_setCell_other _ _ _ _ (by simp), show o + 1 + j = o + (j + 1) by omega]
    exact hx
theorem Cl.new {S : Nat → Prop} {w wr W : World} (h : Cl S w wr) (ho : W.os = wr.os) (ht : W.tape = wr.tape) (hp : W.output = wr.output) (hz : wr.heap.size ≤ W.heap.size) (hb : ∀ b, b < w.heap.size → W.heap[b]? = wr.heap[b]?) : Cl S w W := by
  refine ⟨ho.trans h.os, ht.trans h.tape, hp.trans h.output, Nat.le_trans h.size hz, fun b k u hu => ?_, fun b k hl => ?_, fun b hl hn => (hb b hl).trans (h.block b hl hn)⟩
  · have hl := lt_of_cell hu
    obtain ⟨u', h1, h2⟩ := h.cell b k u hu
    exact ⟨u', by rw [World.cell?_of_block (w := wr) (hb b hl)]; exact h1, h2⟩
  · unfold World.frozen?
    rw [hb b hl]
    exact h.free b k hl
structure XR.Like (r r' : XR) : Prop where
  h : r'.h = r.h
  oa : r'.oa = r.oa
  n : r'.n = r.n
  cap : r.n ≤ r'.cap
theorem like_self {r : XR} (h : r.n ≤ r.cap) : r.Like r := ⟨rfl, rfl, rfl, h⟩
theorem row_cl {S : Nat → Prop} {w w' : World} (h : Cl S w w') {b off : Nat} : ∀ (rs : List XR) (i0 : Nat), (∀ r ∈ rs, r.n ≤ r.cap) → (∀ k (hk : k < rs.length) j u, (xF rs[k])[j]? = some u → w.cell? ⟨b, off + (i0 + k) * 12 + j, none⟩ = some u) →
    ∃ rs' : List XR, rs'.length = rs.length ∧ (∀ k (h1 : k < rs.length) (h2 : k < rs'.length), rs[k].Like rs'[k]) ∧ ∀ k (hk : k < rs'.length) j u, (xF rs'[k])[j]? = some u → w'.cell? ⟨b, off + (i0 + k) * 12 + j, none⟩ = some u
  | [], i0, _, _ => ⟨[], rfl, fun k h1 => by simp at h1, fun k h1 => by simp at h1⟩
  | r :: rs, i0, hn, hc => by
    obtain ⟨rs', h1, h2, h3⟩ := row_cl h rs (i0 + 1) (fun x hx => hn x (by simp [hx])) (fun k hk j u hu => by
      have := hc (k + 1) (by simp; omega) j u (by simpa using hu)
      rw [show i0 + 1 + k = i0 + (k + 1) by omega]; exact this)
    have c0 : ∀ j u, (xF r)[j]? = some u → ∃ u', w'.cell? ⟨b, off + i0 * 12 + j, none⟩ = some u' ∧ SameV u u' := fun j u hu => h.cell _ _ _ (by have := hc 0 (by simp) j u (by simpa using hu); simpa using this)
    obtain ⟨u11, d11, s11⟩ := c0 11 _ rfl
    have hx : ∃ c', u11 = .slice r.oa r.n c' ∧ r.n ≤ c' := by
      rcases s11 with e | ⟨oa, n, c, c', e1, e2, e3⟩
      · exact ⟨r.cap, e.symm, hn r (by simp)⟩
      · cases e1; exact ⟨c', e2, e3⟩
    obtain ⟨c', rfl, hc'⟩ := hx
    have same : ∀ j u, (xF r)[j]? = some u → j ≠ 11 → w'.cell? ⟨b, off + i0 * 12 + j, none⟩ = some u := fun j u hu hj => by
      obtain ⟨u', d, s⟩ := c0 j u hu
      rcases s with e | ⟨oa, n, c, c', e1, e2, e3⟩
      · rw [e]; exact d
      · exfalso
        rcases j with _ | _ | _ | _ | _ | _ | _ | _ | _ | _ | _ | _ | j <;> simp [xF] at hu <;> first | omega | (subst hu; cases e1)
    refine ⟨{ r with cap := c' } :: rs', by simp [h1], fun k a1 a2 => ?_, fun k hk j u hu => ?_⟩
    · cases k with
      | zero => exact ⟨rfl, rfl, rfl, hc'⟩
      | succ k => exact h2 k (by simpa using a1) (by simpa using a2)
    · cases k with
      | zero =>
        simp only [List.getElem_cons_zero, Nat.add_zero] at hu ⊢
        by_cases hj : j = 11
        · subst hj
          simp [xF] at hu
          subst hu
          exact d11
        · refine same j u ?_ hj
          rcases j with _ | _ | _ | _ | _ | _ | _ | _ | _ | _ | _ | _ | j <;> first | exact hu | (exfalso; omega)
      | succ k =>
        have := h3 k (by simpa using hk) j u (by simpa using hu)
        rw [show i0 + (k + 1) = i0 + 1 + k by omega]; exact this
theorem xrow_cl {S S' : Nat → Prop} {w w' : World} (h : Cl S' w w') {oa : Option Addr} {rs : List XR} (hx : XRow S w oa rs) (hn : ∀ r ∈ rs, r.n ≤ r.cap) :
    ∃ rs' : List XR, rs'.length = rs.length ∧ (∀ k (h1 : k < rs.length) (h2 : k < rs'.length), rs[k].Like rs'[k]) ∧ XRow S w' oa rs' := by
  rcases hx with rfl | ⟨b, off, e, hl, hs, hf, hr⟩
  · exact ⟨[], rfl, fun k h1 => by simp at h1, .inl rfl⟩
  · obtain ⟨rs', h1, h2, h3⟩ := row_cl h (b := b) (off := off) rs 0 hn (fun k hk j u hu => by rw [Nat.zero_add]; exact hr k hk j u hu)
    exact ⟨rs', h1, h2, .inr ⟨b, off, e, Nat.lt_of_lt_of_le hl h.size, hs, fun j => (h.free b j hl).trans (hf j), fun k hk j u hu => by have := h3 k hk j u hu; rw [Nat.zero_add] at this; exact this⟩⟩
theorem Ex.At.fits {S : Nat → Prop} {w : World} {x : Ex} {r : XR} (h : Ex.At S w x r) : r.n ≤ r.cap := by
  cases x
  unfold Ex.At at h
  exact h.2.2.1.1
theorem Ex.At.bound {S : Nat → Prop} {w : World} {x : Ex} {r : XR} (h : Ex.At S w x r) : r.n ≤ 2000000 := by
  cases x
  unfold Ex.At at h
  exact h.2.2.1.2
theorem Exs.At.fits {S : Nat → Prop} {w : World} : ∀ {xs : List Ex} {rs : List XR}, Exs.At S w xs rs → ∀ r ∈ rs, r.n ≤ r.cap
  | [], rs, h => by unfold Exs.At at h; subst h; simp
  | x :: xs, rs, h => by
    unfold Exs.At at h
    obtain ⟨r, rr, rfl, h2, h3⟩ := h
    intro q hq
    rcases List.mem_cons.1 hq with rfl | hq
    · exact h2.fits
    · exact h3.fits q hq
mutual
theorem Ex.At.cl {S S' : Nat → Prop} {w w' : World} (h : Cl S' w w') : ∀ {x : Ex} {r r' : XR}, Ex.At S w x r → r.Like r' → Ex.At S w' x r'
  | .mk hd ks, r, r', hx, hl => by
    unfold Ex.At at hx ⊢
    obtain ⟨h1, h2, h3, rs, h4, h5, h6⟩ := hx
    obtain ⟨rs', k1, k2, k3⟩ := xrow_cl h h5 h6.fits
    refine ⟨by rw [hl.h]; exact h1, by rw [hl.n]; exact h2, by rw [hl.n]; exact ⟨hl.cap, h3.2⟩, rs', by rw [k1]; exact h4, by rw [hl.oa]; exact k3, Exs.At.cl h h6 k1 k2⟩
theorem Exs.At.cl {S S' : Nat → Prop} {w w' : World} (h : Cl S' w w') : ∀ {xs : List Ex} {rs rs' : List XR}, Exs.At S w xs rs → rs'.length = rs.length → (∀ k (h1 : k < rs.length) (h2 : k < rs'.length), rs[k].Like rs'[k]) → Exs.At S w' xs rs'
  | [], rs, rs', hx, hl, hk => by
    unfold Exs.At at hx ⊢
    subst hx
    exact List.eq_nil_of_length_eq_zero (by simpa using hl)
  | x :: xs, rs, rs', hx, hl, hk => by
    unfold Exs.At at hx ⊢
    obtain ⟨r, rr, rfl, h2, h3⟩ := hx
    cases rs' with
    | nil => simp at hl
    | cons q qs =>
      exact ⟨q, qs, rfl, Ex.At.cl h h2 (hk 0 (by simp) (by simp)), Exs.At.cl h h3 (by simpa using hl) (fun k h1 h2 => hk (k + 1) (by simp; omega) (by simp; omega))⟩
end
theorem Ex.At.clS {S S' : Nat → Prop} {w w' : World} {x : Ex} {r : XR} (hx : Ex.At S w x r) (h : Cl S' w w') : Ex.At S w' x r := hx.cl h (like_self hx.fits)
theorem XsAt.cl {S S' : Nat → Prop} {w w' : World} {xs : List Ex} {oa : Option Addr} {n cap : Nat} (hx : XsAt S w xs oa n cap) (h : Cl S' w w') : XsAt S w' xs oa n cap := by
  obtain ⟨h1, h2, rs, h3, h4, h5⟩ := hx
  obtain ⟨rs', k1, k2, k3⟩ := xrow_cl h h4 h5.fits
  exact ⟨h1, h2, rs', k1.trans h3, k3, h5.cl h k1 k2⟩
end Go.Proofs.YtbeinfhgfflneaaGreat
end
section
namespace Go.Proofs.YtbeinfhgfflneaaGreat
open Go.RowKit
set_option linter.unusedVariables false
structure Slc where
  oa : Option Addr := none
  n : Nat := 0
  cap : Nat := 0
def Slc.val (s : Slc) : Value := .slice s.oa s.n s.cap
def All2 : List Value → List Value → Prop
  | [], l => l = []
  | u :: us, l => ∃ v vs, l = v :: vs ∧ SameV u v ∧ All2 us vs
structure Kd (α β : Type) where
  f : α → List Value
  n : Nat
  T : TypeId
  E : (Nat → Prop) → World → β → α → Prop
variable {α β : Type}
structure Kd.Ok (K : Kd α β) : Prop where
  enc : Enc K.f K.n
  of : ∀ {S : Nat → Prop} {w w' : World} {y : β} {r : α}, w.heap.size ≤ w'.heap.size → (∀ b, S b → b < w.heap.size → w'.heap[b]? = w.heap[b]?) → K.E S w y r → K.E S w' y r
  mono : ∀ {S S' : Nat → Prop} {w : World} {y : β} {r : α}, (∀ b, b < w.heap.size → S b → S' b) → K.E S w y r → K.E S' w y r
  cl : ∀ {S S' : Nat → Prop} {w w' : World} {y : β} {r : α} {cs : List Value}, Cl S' w w' → K.E S w y r → All2 (K.f r) cs → ∃ r', K.E S w' y r' ∧ K.f r' = cs
def Es (K : Kd α β) (S : Nat → Prop) (w : World) (ys : List β) (rs : List α) : Prop := rs.length = ys.length ∧ ∀ k (h1 : k < ys.length) (h2 : k < rs.length), K.E S w ys[k] rs[k]
theorem Es.nil {K : Kd α β} {S : Nat → Prop} {w : World} : Es K S w [] [] := ⟨rfl, fun k h => by simp at h⟩
theorem Es.snoc {K : Kd α β} {S : Nat → Prop} {w : World} {ys : List β} {rs : List α} {y : β} {r : α} (h : Es K S w ys rs) (hy : K.E S w y r) : Es K S w (ys ++ [y]) (rs ++ [r]) := by
  refine ⟨by simp [h.1], fun k h1 h2 => ?_⟩
  by_cases hk : k < ys.length
  · rw [List.getElem_append_left hk, List.getElem_append_left (by rw [h.1]; exact hk)]
    exact h.2 k hk _
  · have e : k = ys.length := by simp at h1; omega
    subst e
    rw [List.getElem_append_right (Nat.le_refl _), List.getElem_append_right (by rw [h.1]; exact Nat.le_refl _)]
    simpa [h.1] using hy
theorem Es.of {K : Kd α β} (hK : K.Ok) {S : Nat → Prop} {w w' : World} {ys : List β} {rs : List α} (hz : w.heap.size ≤ w'.heap.size) (hb : ∀ b, S b → b < w.heap.size → w'.heap[b]? = w.heap[b]?) (h : Es K S w ys rs) : Es K S w' ys rs := ⟨h.1, fun k h1 h2 => hK.of hz hb (h.2 k h1 h2)⟩
theorem Es.mono {K : Kd α β} (hK : K.Ok) {S S' : Nat → Prop} {w : World} {ys : List β} {rs : List α} (hS : ∀ b, b < w.heap.size → S b → S' b) (h : Es K S w ys rs) : Es K S' w ys rs := ⟨h.1, fun k h1 h2 => hK.mono hS (h.2 k h1 h2)⟩
def KRow (K : Kd α β) (S : Nat → Prop) (w : World) (oa : Option Addr) (rs : List α) : Prop := rs = [] ∨ ∃ b off, oa = some ⟨b, off, none⟩ ∧ b < w.heap.size ∧ S b ∧ (∀ j, w.frozen? ⟨b, j, none⟩ = false) ∧ RowF K.f K.n w b off rs
theorem KRow.of {K : Kd α β} {S : Nat → Prop} {w w' : World} {oa : Option Addr} {rs : List α} (h : KRow K S w oa rs) (hz : w.heap.size ≤ w'.heap.size) (hb : ∀ b, S b → b < w.heap.size → w'.heap[b]? = w.heap[b]?) : KRow K S w' oa rs := by
  rcases h with h | ⟨b, off, e, hl, hs, hf, hr⟩
  · exact .inl h
  · exact .inr ⟨b, off, e, Nat.lt_of_lt_of_le hl hz, hs, fun j => by unfold World.frozen?; rw [hb b hs hl]; exact hf j, fun i hi j u hu => by rw [World.cell?_of_block (w := w) (hb b hs hl)]; exact hr i hi j u hu⟩
theorem KRow.mono {K : Kd α β} {S S' : Nat → Prop} {w : World} {oa : Option Addr} {rs : List α} (h : KRow K S w oa rs) (hS : ∀ b, b < w.heap.size → S b → S' b) : KRow K S' w oa rs := by
  rcases h with h | ⟨b, off, e, hl, hs, hf, hr⟩
  · exact .inl h
  · exact .inr ⟨b, off, e, hl, hS b hl hs, hf, hr⟩
def KsAt (K : Kd α β) (S : Nat → Prop) (w : World) (ys : List β) (s : Slc) : Prop := s.n = ys.length ∧ Fit s.n s.cap ∧ ∃ rs, Es K S w ys rs ∧ KRow K S w s.oa rs
theorem KsAt.of {K : Kd α β} (hK : K.Ok) {S : Nat → Prop} {w w' : World} {ys : List β} {s : Slc} (h : KsAt K S w ys s) (hz : w.heap.size ≤ w'.heap.size) (hb : ∀ b, S b → b < w.heap.size → w'.heap[b]? = w.heap[b]?) : KsAt K S w' ys s := by
  obtain ⟨h1, h2, rs, h3, h4⟩ := h
  exact ⟨h1, h2, rs, h3.of hK hz hb, h4.of hz hb⟩
theorem KsAt.mono {K : Kd α β} (hK : K.Ok) {S S' : Nat → Prop} {w : World} {ys : List β} {s : Slc} (h : KsAt K S w ys s) (hS : ∀ b, b < w.heap.size → S b → S' b) : KsAt K S' w ys s := by
  obtain ⟨h1, h2, rs, h3, h4⟩ := h
  exact ⟨h1, h2, rs, h3.mono hK hS, h4.mono hS⟩
theorem KsAt.none {K : Kd α β} {S : Nat → Prop} {w : World} : KsAt K S w [] {} := ⟨rfl, fit_le 0 (by decide), [], Es.nil, .inl rfl⟩
def KL (K : Kd α β) (S : Nat → Prop) (w : World) (v : Value) (ys : List β) : Prop := ∃ rs, w.ownsRow 0 K.T K.n v ys.length (cellsF K.f rs) ∧ (∀ b, v.ownBlock = some b → S b) ∧ Es K (fun b => S b ∧ v.ownBlock ≠ some b) w ys rs
theorem KL.nil {K : Kd α β} {S : Nat → Prop} {w : World} : KL K S w (.slice none 0 0) [] := ⟨[], ⟨by simp [cellsF], .inl ⟨rfl, rfl⟩⟩, fun b e => (by cases e), Es.nil⟩
theorem KL.blk {K : Kd α β} {S : Nat → Prop} {g : Nat} {w : World} {v : Value} {ys : List β} (h : KL K S w v ys) (e : v.ownBlock = some g) : S g ∧ g < w.heap.size := by
  obtain ⟨rs, h1, h2, _⟩ := h
  exact ⟨h2 g e, (World.ownsRow.lt h1 g e).2⟩
theorem KL.mono {K : Kd α β} (hK : K.Ok) {S S' : Nat → Prop} {w : World} {v : Value} {ys : List β} (h : KL K S w v ys) (hS : ∀ b, b < w.heap.size → S b → S' b) : KL K S' w v ys := by
  have hb := fun g e => h.blk (g := g) e
  obtain ⟨rs, h1, h2, h3⟩ := h
  exact ⟨rs, h1, fun b e => hS b (hb b e).2 (h2 b e), h3.mono hK (fun b hl hs => ⟨hS b hl hs.1, hs.2⟩)⟩
theorem KL.keep {K : Kd α β} (hK : K.Ok) {S : Nat → Prop} {w w' : World} {v : Value} {ys : List β} (h : KL K S w v ys) (hz : w.heap.size ≤ w'.heap.size) (hb : ∀ b, S b → b < w.heap.size → w'.heap[b]? = w.heap[b]?) : KL K S w' v ys := by
  obtain ⟨rs, h1, h2, h3⟩ := h
  refine ⟨rs, ?_, h2, h3.of hK hz (fun b hs hl => hb b hs.1 hl)⟩
  refine ⟨h1.1, ?_⟩
  rcases h1.2 with h0 | ⟨g, cap, cur, e, hbg, hg, h4⟩
  · exact .inl h0
  · exact .inr ⟨g, cap, cur, e, hbg, by rw [hb g (h2 g (by rw [e]; rfl)) (Array.getElem?_eq_some_iff.1 hg).1]; exact hg, h4⟩
theorem KL.go {K : Kd α β} (hK : K.Ok) {S : Nat → Prop} {p : Nat} {w w' : World} {v : Value} {ys : List β} (h : KL K S w v ys) (hg : Go1 p w w') (hp : ¬ S p) : KL K S w' v ys :=
  h.keep hK hg.size (fun b hb hl => hg.get hl (fun e => hp (e ▸ hb)))
theorem KL.gr {K : Kd α β} (hK : K.Ok) {S : Nat → Prop} {w w' : World} {v : Value} {ys : List β} (h : KL K S w v ys) (hg : Gr w w') : KL K S w' v ys :=
  h.keep hK hg.size (fun b _ hl => hg.block b hl)
theorem KL.at {K : Kd α β} (hK : K.Ok) {S : Nat → Prop} {w : World} {v : Value} {ys : List β} (h : KL K S w v ys) (hn : ys.length ≤ 2000000) : ∃ s : Slc, v = s.val ∧ KsAt K S w ys s ∧ (s.oa = none → s.cap = 0) := by
  obtain ⟨rs, h1, hS, h2⟩ := h
  have h1' : w.ownsRow 0 K.T K.n v rs.length (cellsF K.f rs) := by rw [h2.1]; exact h1
  obtain ⟨oa, c, rfl, hat, hc, hb⟩ := own_at (f := K.f) (n := K.n) (l := rs) hK.enc h1'
  refine ⟨⟨oa, rs.length, c⟩, rfl, ⟨h2.1, ⟨hc, by show rs.length ≤ _; rw [h2.1]; exact hn⟩, rs, h2.mono hK (fun b _ hs => hs.1), ?_⟩, fun e => ?_⟩
  · rcases (hat : AtF K.f K.n w oa rs) with h0 | ⟨b, off, e, hl, hr⟩
    · exact .inl h0
    · subst e
      have hf : ∀ j, w.frozen? ⟨b, j, none⟩ = false := by
        rcases h1'.2 with ⟨e, _⟩ | ⟨g, cap', cur, e, _, hg, _⟩
        · cases e
        · cases e; exact Rg.blk_free hg
      exact .inr ⟨b, off, rfl, hl, hS b rfl, hf, hr⟩
  · rcases h1'.2 with ⟨e1, _⟩ | ⟨g, cap', cur, e1, _⟩
    · injection e1
    · have e : oa = none := e
      rw [e] at e1
      cases e1
theorem runs_push {P : Program} (w : World) (t ty : TypeId)
    (base : Nat) (e : TypeId) (i : TypeInfo) (z : Value) (size bytes : Nat) (h1 : P.underlying t = some (.slice e)) (h2 : P.info? e = some i) (h3 : i.zero = some z) (h4 : i.size = size) (h5 : i.bytes = bytes) (h6 : z.cells.size = size) (h7 : 0 < size)
    (v : Value) (k : Nat) (xs : List Value) (hown : w.ownsRow base e size v k xs) (ad : Addr) (c : Nat) (news : List Value) (hn : news.length = size)
    (hc : ∀ j u, news[j]? = some u → w.cell? (ad.add j) = some u) (h1c : ∀ u ∈ news, u.oneCell' = true) (b1 : k + 1 ≤ maxLen) (b2 : (k + 1) * bytes ≤ 140737488355328) (b3 : base ≤ w.heap.size) :
    ∃ v' w', (Builtin.append_ #[t, t] ty #[v, .slice (some ad) 1 c]).run P w = .ok v' w' ∧ w'.ownsRow base e size v' (k + 1) (xs ++ news) ∧ Gz v w w' ∧ Moved v w v' := by
  have hn' : news.length = 1 * size := by rw [hn, Nat.one_mul]
  have weak : ∀ {v : Value} {w' : World}, w.grownBy w' none → Gz v w w' := fun h => ⟨h.os, h.tape, h.output, h.size, fun i hi _ => h.block i hi (by simp)⟩
  rcases hown.2 with ⟨rfl, h0⟩ | ⟨g, cap, cur, rfl, hb, hgh, hkc, hcm, hcs, htk⟩
  · subst h0
    have hxs : xs = [] := List.eq_nil_of_length_eq_zero (by rw [hown.1]; simp)
    subst hxs
    have hown' : w.ownsRow w.heap.size e size (.slice none 0 0) 0 [] := ⟨by simp, .inl ⟨rfl, rfl⟩⟩
    obtain ⟨v', w', hrun, r1, r2, _⟩ := run_append_own (P := P) w w.heap.size t ty e i z size bytes h1 h2 h3 h4 h5 h6 h7 _ 0 [] hown' ad 1 c news hn' hc h1c b1 b2 (Nat.le_refl _)
    exact ⟨v', w', hrun, own_mono r1 b3, weak r2, .inr fun g e => (World.ownsRow.lt r1 g e).1⟩
  · by_cases hr : k + 1 ≤ cap
    · obtain ⟨w', hrun, r1, r2⟩ := run_append_fits (P := P) w base t ty e i size h1 h2 h4 g k cap xs hown ad 1 c news hn' hc h1c hr
      exact ⟨_, w', hrun, r1, r2, .inl rfl⟩
    · obtain ⟨v', w', hrun, r1, r2⟩ := run_append_arg_grows (P := P) w t ty e i z size bytes h1 h2 h3 h4 h5 h6 h7 ⟨g, 0, none⟩ k cap xs hown.1 (fun j u hj => hown.cells (g := g) rfl j u hj) ad 1 c news hn' hc (by omega) b1 b2
      exact ⟨v', w', hrun, own_mono r1 b3, weak r2, .inr fun g e => (World.ownsRow.lt r1 g e).1⟩
structure KT (K : Kd α β) (t : TypeId) (bytes : Nat) : Prop where
  under : Tryz.prog.underlying t = some (.slice K.T)
  inf : (Tryz.prog.info? K.T).map (fun i => (i.zero.map (fun z => z.cells.size), i.size, i.bytes)) = some (some K.n, K.n, bytes)
  small : bytes ≤ 300
theorem KT.info {K : Kd α β} {t : TypeId} {bytes : Nat} (h : KT K t bytes) : ∃ i z, Tryz.prog.info? K.T = some i ∧ i.zero = some z ∧ i.size = K.n ∧ i.bytes = bytes ∧ z.cells.size = K.n := by
  have h := h.inf
  cases hi : Tryz.prog.info? K.T with
  | none => rw [hi] at h; cases h
  | some i =>
    rw [hi] at h
    simp only [Option.map_some, Option.some.injEq, Prod.mk.injEq] at h
    obtain ⟨h1, h2, h3⟩ := h
    cases hz : i.zero with
    | none => rw [hz] at h1; cases h1
    | some z =>
      rw [hz] at h1
      simp only [Option.map_some, Option.some.injEq] at h1
      exact ⟨i, z, rfl, hz, h2, h3, h1⟩
theorem KL.push {K : Kd α β} (hK : K.Ok) {t : TypeId} {bytes : Nat} (hT : KT K t bytes) (ty : TypeId) {S : Nat → Prop} {w : World} {v : Value} {ys : List β} (h : KL K S w v ys) (hn : ys.length ≤ 1000001) (hS : ∀ b, w.heap.size ≤ b → S b) {y : β} {r : α} (hy : K.E (fun b => S b ∧ v.ownBlock ≠ some b) w y r) {g c : Nat} {cs : Array Value} (hg : w.heap[g]? = some (.cells cs K.T (0, 0))) (hcs : cs.toList = K.f r) :
    ∃ v' w', (Builtin.append_ #[t, t] ty #[v, .slice (some ⟨g, 0, none⟩) 1 c]).run Tryz.prog w = .ok v' w' ∧ KL K S w' v' (ys ++ [y]) ∧ Gz v w w' ∧ Moved v w v' := by
  obtain ⟨rs, h1, hS0, h2⟩ := h
  obtain ⟨i, z, i1, i2, i3, i4, i5⟩ := hT.info
  have hsm := hT.small
  have hb2 : (ys.length + 1) * bytes ≤ 140737488355328 := by
    have : (ys.length + 1) * bytes ≤ 1000002 * 300 := Nat.mul_le_mul (by omega) hsm
    omega
  obtain ⟨v', w', hrun, r1, r2, r3⟩ := runs_push (P := Tryz.prog) w t ty 0 K.T i z K.n bytes hT.under i1 i2 i3 i4 i5 hK.enc.pos v ys.length (cellsF K.f rs) h1 ⟨g, 0, none⟩ c (K.f r) (hK.enc.len r) (fun j u hu => by
    rw [addN, Nat.zero_add, Rg.blk_cells hg, ← hcs] at *
    rw [← hu]
    simp) (hK.enc.one r) (by unfold maxLen; omega) hb2 (Nat.zero_le _)
  refine ⟨v', w', hrun, ⟨rs ++ [r], by rw [cellsF_snoc, List.length_append]; exact r1, fun b e => ?_, ?_⟩, r2, r3⟩
  · rcases r3 with hm | hm
    · rw [hm] at e; exact hS0 b e
    · exact hS b (hm b e)
  have hz := r2.size
  have hmv : ∀ b, b < w.heap.size → v.ownBlock ≠ some b → v'.ownBlock ≠ some b := fun b hb hv e => by
    rcases r3 with hm | hm
    · rw [hm] at e; exact hv e
    · have := hm b e; omega
  have hall := h2.snoc hy
  refine ((hall.mono hK (S' := fun b => S b ∧ v.ownBlock ≠ some b ∧ v'.ownBlock ≠ some b) (fun b hb hs => ⟨hs.1, hs.2, hmv b hb hs.2⟩)).of hK hz (fun b hs hl => r2.block b hl (fun e => hs.2.1 e.symm))).mono hK (fun b _ hs => ⟨hs.1, hs.2.2⟩)
theorem cells_cl {S : Nat → Prop} {w w' : World} (h : Cl S w w') {b : Nat} : ∀ (l : List Value) (o : Nat), (∀ j u, l[j]? = some u → w.cell? ⟨b, o + j, none⟩ = some u) → ∃ l', All2 l l' ∧ ∀ j u, l'[j]? = some u → w'.cell? ⟨b, o + j, none⟩ = some u
  | [], o, _ => ⟨[], rfl, fun j u hu => by simp at hu⟩
  | x :: l, o, hc => by
    obtain ⟨l', h1, h2⟩ := cells_cl h l (o + 1) (fun j u hu => by rw [show o + 1 + j = o + (j + 1) by omega]; exact hc (j + 1) u (by simpa using hu))
    obtain ⟨x', hx1, hx2⟩ := h.cell b o x (by simpa using hc 0 x rfl)
    refine ⟨x' :: l', ⟨x', l', rfl, hx2, h1⟩, fun j u hu => ?_⟩
    cases j with
    | zero => simp at hu; subst hu; simpa using hx1
    | succ j => rw [show o + (j + 1) = o + 1 + j by omega]; exact h2 j u (by simpa using hu)
theorem krow_cl {K : Kd α β} (hK : K.Ok) {S S' : Nat → Prop} {w w' : World} (h : Cl S' w w') {b off : Nat} : ∀ (rs : List α) (ys : List β) (i0 : Nat), Es K S w ys rs → (∀ k (hk : k < rs.length) j u, (K.f rs[k])[j]? = some u → w.cell? ⟨b, off + (i0 + k) * K.n + j, none⟩ = some u) →
    ∃ rs' : List α, Es K S w' ys rs' ∧ ∀ k (hk : k < rs'.length) j u, (K.f rs'[k])[j]? = some u → w'.cell? ⟨b, off + (i0 + k) * K.n + j, none⟩ = some u
  | [], ys, i0, he, _ => by
    have : ys = [] := List.eq_nil_of_length_eq_zero he.1.symm
    subst this
    exact ⟨[], Es.nil, fun k h1 => by simp at h1⟩
  | r :: rs, [], i0, he, _ => by have := he.1; simp at this
  | r :: rs, y :: ys, i0, he, hc => by
    have he' : Es K S w ys rs := ⟨by have := he.1; simpa using this, fun k h1 h2 => he.2 (k + 1) (Nat.succ_lt_succ h1) (Nat.succ_lt_succ h2)⟩
    obtain ⟨rs', h1, h3⟩ := krow_cl hK h rs ys (i0 + 1) he' (fun k hk j u hu => by
      have := hc (k + 1) (by simp; omega) j u (by simpa using hu)
      rw [show i0 + 1 + k = i0 + (k + 1) by omega]; exact this)
    obtain ⟨cs, c1, c2⟩ := cells_cl h (b := b) (K.f r) (off + i0 * K.n) (fun j u hu => by have := hc 0 (by simp) j u (by simpa using hu); simpa using this)
    obtain ⟨r', e1, e2⟩ := hK.cl h (he.2 0 (by simp) (by simp)) c1
    refine ⟨r' :: rs', ⟨by simp [h1.1], fun k a1 a2 => ?_⟩, fun k hk j u hu => ?_⟩
    · cases k with
      | zero => exact e1
      | succ k => exact h1.2 k (by simpa using a1) (by simpa using a2)
    · cases k with
      | zero =>
        simp only [List.getElem_cons_zero, Nat.add_zero] at hu ⊢
        rw [e2] at hu
        exact c2 j u hu
      | succ k =>
        have := h3 k (by simpa using hk) j u (by simpa using hu)
        rw [show i0 + (k + 1) = i0 + 1 + k by omega]; exact this
theorem KsAt.cl {K : Kd α β} (hK : K.Ok) {S S' : Nat → Prop} {w w' : World} {ys : List β} {s s' : Slc} (h : Cl S' w w') (hx : KsAt K S w ys s) (h1 : s'.oa = s.oa) (h2 : s'.n = s.n) (h3 : s.n ≤ s'.cap) : KsAt K S w' ys s' := by
  obtain ⟨a1, a2, rs, a3, a4⟩ := hx
  refine ⟨by rw [h2]; exact a1, ⟨by rw [h2]; exact h3, by rw [h2]; exact a2.2⟩, ?_⟩
  rw [h1]
  rcases a4 with rfl | ⟨b, off, e, hl, hs, hf, hr⟩
  · refine ⟨[], ⟨a3.1, fun k _ hk => by simp at hk⟩, .inl rfl⟩
  · obtain ⟨rs', k1, k2⟩ := krow_cl hK h (b := b) (off := off) rs ys 0 a3 (fun k hk j u hu => by rw [Nat.zero_add]; exact hr k hk j u hu)
    exact ⟨rs', k1, .inr ⟨b, off, e, Nat.lt_of_lt_of_le hl h.size, hs, fun j => (h.free b j hl).trans (hf j), fun k hk j u hu => by have := k2 k hk j u hu; rw [Nat.zero_add] at this; exact this⟩⟩
end Go.Proofs.YtbeinfhgfflneaaGreat
end
section
namespace Go.Proofs.YtbeinfhgfflneaaGreat
open Go.RowKit
set_option linter.unusedSimpArgs false
set_option linter.unusedVariables false
theorem All2.refl : ∀ l : List Value, All2 l l
  | [] => rfl
  | u :: us => ⟨u, us, rfl, .refl u, All2.refl us⟩
theorem SameV.int {k : IntKind} {n : Int} {v : Value} (h : SameV (.int k n) v) : v = .int k n := by
  rcases h with h | ⟨_, _, _, _, h, _⟩
  · exact h.symm
  · cases h
theorem SameV.str {s : ByteArray} {v : Value} (h : SameV (.string s) v) : v = .string s := by
  rcases h with h | ⟨_, _, _, _, h, _⟩
  · exact h.symm
  · cases h
theorem SameV.boo {b : Bool} {v : Value} (h : SameV (.bool b) v) : v = .bool b := by
  rcases h with h | ⟨_, _, _, _, h, _⟩
  · exact h.symm
  · cases h
theorem SameV.sli {oa : Option Addr} {n c : Nat} {v : Value} (h : SameV (.slice oa n c) v) (hc : n ≤ c) : ∃ c', v = .slice oa n c' ∧ n ≤ c' := by
  rcases h with h | ⟨_, _, _, _, h, h2, h3⟩
  · exact ⟨c, h.symm, hc⟩
  · cases h; exact ⟨_, h2, h3⟩
theorem form_cl {S S' : Nat → Prop} {w w' : World} {x : Ex} {r : XR} {l cs : List Value} (hc : Cl S' w w') (hx : Ex.At S w x r) (h : All2 (xF r ++ l) cs) : ∃ r' cs', Ex.At S w' x r' ∧ cs = xF r' ++ cs' ∧ All2 l cs' := by
  simp only [xF, List.cons_append, List.nil_append] at h
  obtain ⟨v0, l0, rfl, e0, v1, l1, rfl, e1, v2, l2, rfl, e2, v3, l3, rfl, e3, v4, l4, rfl, e4, v5, l5, rfl, e5, v6, l6, rfl, e6, v7, l7, rfl, e7, v8, l8, rfl, e8, v9, l9, rfl, e9, v10, l10, rfl, e10, v11, l11, rfl, e11, h⟩ := h
  obtain ⟨c', e11', hle⟩ := e11.sli hx.fits
  rw [e0.int, e1.int, e2.int, e3.str, e4.boo, e5.str, e6.str, e7.int, e8.int, e9.boo, e10.boo, e11']
  exact ⟨{ r with cap := c' }, l11, hx.cl hc ⟨rfl, rfl, rfl, hle⟩, rfl, h⟩
def kX : Kd XR Ex := ⟨xF, 12, 26, Ex.At⟩
theorem kX_ok : kX.Ok where
  enc := xE
  of := fun hz hb h => Ex.At.of hz hb h
  mono := fun hS h => h.mono hS
  cl := fun hc hx h => by
    obtain ⟨r', cs', h1, h2, h3⟩ := form_cl (l := []) hc hx (by rw [List.append_nil]; exact h)
    have : cs' = [] := h3
    exact ⟨r', h1, by rw [h2, this, List.append_nil]; rfl⟩
theorem es_x {S : Nat → Prop} {w : World} : ∀ {xs : List Ex} {rs : List XR}, Exs.At S w xs rs ↔ Es kX S w xs rs
  | [], rs => ⟨fun h => by unfold Exs.At at h; subst h; exact Es.nil, fun h => by have := List.eq_nil_of_length_eq_zero h.1; subst this; exact Exs.At.nil⟩
  | x :: xs, rs => by
    constructor
    · intro h
      unfold Exs.At at h
      obtain ⟨r, rr, rfl, h1, h2⟩ := h
      have h3 := es_x.1 h2
      refine ⟨by simp [h3.1], fun k a1 a2 => ?_⟩
      cases k with
      | zero => exact h1
      | succ k => exact h3.2 k (by simpa using a1) (by simpa using a2)
    · intro h
      cases rs with
      | nil => have := h.1; simp at this
      | cons r rr =>
        refine Exs.At.cons (h.2 0 (by simp) (by simp)) (es_x.2 ⟨by have := h.1; simpa using this, fun k a1 a2 => h.2 (k + 1) (Nat.succ_lt_succ a1) (Nat.succ_lt_succ a2)⟩)
theorem ks_x {S : Nat → Prop} {w : World} {xs : List Ex} {s : Slc} : XsAt S w xs s.oa s.n s.cap ↔ KsAt kX S w xs s := by
  unfold XsAt KsAt
  constructor
  · rintro ⟨h1, h2, rs, h3, h4, h5⟩
    exact ⟨h1, h2, rs, es_x.1 h5, h4⟩
  · rintro ⟨h1, h2, rs, h3, h4⟩
    exact ⟨h1, h2, rs, h3.1, h4, es_x.2 h3⟩
theorem kt_x : KT kX 24 128 := ⟨Tryz.underlying24, by kernel_rfl, by decide⟩
def kI : Kd Int Int := ⟨iF, 1, 3, fun _ _ y r => r = y⟩
theorem kI_ok : kI.Ok where
  enc := iE
  of := fun _ _ h => h
  mono := fun _ h => h
  cl := fun hc hx h => by
    obtain ⟨v0, l0, rfl, e0, h⟩ := h
    have : l0 = [] := h
    rw [e0.int, this]
    exact ⟨_, hx, rfl⟩
theorem kt_i : KT kI 39 8 := ⟨Tryz.underlying39, by kernel_rfl, by decide⟩
variable {α β : Type}
theorem KL.side {K : Kd α β} (hK : K.Ok) {A : Nat} {v1 v1' v2 : Value} {w3 W : World} {ys : List β} (h : KL K (fun b => A ≤ b ∧ v1.ownBlock ≠ some b) w3 v2 ys) (hz : Gz v1 w3 W) (hm : Moved v1 w3 v1') : KL K (fun b => A ≤ b ∧ v1'.ownBlock ≠ some b) W v2 ys := by
  have h1 := h.mono hK (S' := fun b => A ≤ b ∧ v1.ownBlock ≠ some b ∧ v1'.ownBlock ≠ some b) (fun b hb hs => ⟨hs.1, hs.2, fun e => by
    rcases hm with hm | hm
    · rw [hm] at e; exact hs.2 e
    · have := hm b e; omega⟩)
  exact (h1.keep hK hz.size (fun b hs hl => hz.block b hl (fun e => hs.2.1 e.symm))).mono hK (fun b _ hs => ⟨hs.1, hs.2.2⟩)
theorem KRow.at {K : Kd α β} {S : Nat → Prop} {w : World} {oa : Option Addr} {rs : List α} (h : KRow K S w oa rs) : AtF K.f K.n w oa rs := by
  rcases h with h | ⟨b, off, e, hl, hs, hf, hr⟩
  · exact .inl h
  · exact .inr ⟨b, off, e, hl, hr⟩
theorem append_kl {K : Kd α β} (hK : K.Ok) {t : TypeId} {bytes : Nat} (hT : KT K t bytes) {S : Nat → Prop} (w : World) {ops : Array Oper} {rest : List Oper} {o : Oper} {a : Act} {Q : Exit → Act → World → Prop}
    (hg : o.guard = none) (s x : Operand) (hop : o.op = Op.call { callee := Callee.builtin Builtin.append, args := #[s, x], argTypes := #[t, t] }) (v : Value) (hs : a.eval s = v) {ys : List β} (h : KL K S w v ys) (hn : ys.length ≤ 1000001) (hS : ∀ b, w.heap.size ≤ b → S b) {y : β} {r : α} (hy : K.E (fun b => S b ∧ v.ownBlock ≠ some b) w y r)
    {g c : Nat} {cs : Array Value} (hx : a.eval x = .slice (some ⟨g, 0, none⟩) 1 c) (hgk : w.heap[g]? = some (.cells cs K.T (0, 0))) (hcs : cs.toList = K.f r)
    (hK' : ∀ v' w', KL K S w' v' (ys ++ [y]) → Gz v w w' → Moved v w v' → wpList Tryz.prog ops Q rest (a.put o.dst v') w') : wpList Tryz.prog ops Q (o :: rest) a w := by
  obtain ⟨rs, h1, hS0, h2⟩ := h
  obtain ⟨i, z, i1, i2, i3, i4, i5⟩ := hT.info
  have hsm := hT.small
  have hb2 : (ys.length + 1) * bytes ≤ 140737488355328 := by
    have : (ys.length + 1) * bytes ≤ 1000002 * 300 := Nat.mul_le_mul (by omega) hsm
    omega
  refine append_one w hg s x t hop 0 K.T i z K.n bytes hT.under i1 i2 i3 i4 i5 hK.enc.pos v ys.length (cellsF K.f rs) hs h1 ⟨g, 0, none⟩ c (K.f r) hx (hK.enc.len r) (fun j u hu => by
    rw [addN, Nat.zero_add, Rg.blk_cells hgk, ← hcs] at *
    rw [← hu]
    simp) (hK.enc.one r) (by unfold maxLen; omega) hb2 (Nat.zero_le _) ?_
  intro v' w' r1 r2 r3
  refine hK' v' w' ⟨rs ++ [r], by rw [cellsF_snoc, List.length_append]; exact r1, fun b e => ?_, ?_⟩ r2 r3
  · rcases r3 with hm | hm
    · rw [hm] at e; exact hS0 b e
    · exact hS b (hm b e)
  have hz := r2.size
  have hmv : ∀ b, b < w.heap.size → v.ownBlock ≠ some b → v'.ownBlock ≠ some b := fun b hb hv e => by
    rcases r3 with hm | hm
    · rw [hm] at e; exact hv e
    · have := hm b e; omega
  have hall := h2.snoc hy
  refine ((hall.mono hK (S' := fun b => S b ∧ v.ownBlock ≠ some b ∧ v'.ownBlock ≠ some b) (fun b hb hs => ⟨hs.1, hs.2, hmv b hb hs.2⟩)).of hK hz (fun b hs hl => r2.block b hl (fun e => hs.2.1 e.symm))).mono hK (fun b _ hs => ⟨hs.1, hs.2.2⟩)
end Go.Proofs.YtbeinfhgfflneaaGreat
end
section
namespace Go.Proofs.YtbeinfhgfflneaaGreat
open Go.RowKit
set_option linter.unusedSimpArgs false
set_option linter.unusedVariables false
attribute [local go_sem] Rg.leads_value Rg.leads_skip Rg.leads_enter Rg.brings_value Rg.brings_skip Rg.brings_enter Rg.bringsG_value Rg.bringsG_enter Rg.once_normal Rg.once_exit Rg.once_ret Rg.once_panic Rg.once_goto Rg.bringsS_value Rg.bringsS_skip Rg.bringsS_enter Rg.still_value Rg.still_skip Rg.still_enter
theorem at_2 (w : World) (o o' : Obj) : ((w.alloc o).alloc o').heap[w.heap.size + 1]? = some o' := by have := alloc_at (w.alloc o) o'; rwa [World.size_alloc] at this
theorem at_3 (w : World) (o1 o2 o3 : Obj) : (((w.alloc o1).alloc o2).alloc o3).heap[w.heap.size + 1 + 1]? = some o3 := by have := at_2 (w.alloc o1) o2 o3; rwa [World.size_alloc] at this
theorem at_4 (w : World) (o1 o2 o3 o4 : Obj) : ((((w.alloc o1).alloc o2).alloc o3).alloc o4).heap[w.heap.size + 1 + 1 + 1]? = some o4 := by have := at_3 (w.alloc o1) o2 o3 o4; rwa [World.size_alloc] at this
def colF (c : Cn) (nn uq : Bool) : List Value := [.string c.name, .int .i64 c.ty, .bool nn, .bool uq]
def CsAt (w : World) (oa : Option Addr) (cols : List Cn) : Prop := ∀ i (h : i < cols.length), ∃ b off nn uq, oa = some ⟨b, off, none⟩ ∧ b < w.heap.size ∧ ∀ j u, (colF cols[i] nn uq)[j]? = some u → w.cell? ⟨b, off + i * 4 + j, none⟩ = some u
theorem CsAt.keep {w w' : World} {oa : Option Addr} {cols : List Cn} (h : CsAt w oa cols) (hg : Gr w w') : CsAt w' oa cols := fun i hi => by
  obtain ⟨b, off, nn, uq, h1, h2, h3⟩ := h i hi
  exact ⟨b, off, nn, uq, h1, Nat.lt_of_lt_of_le h2 hg.size, fun j u hu => hg.keep (h3 j u hu)⟩
structure TR where
  nm : ByteArray
  co : Option Addr
  cn : Nat
  cc : Nat
  xo : Option Addr
  xn : Nat
  xc : Nat
  hd : Int
  ro : Option Addr
  rn : Nat
  rc : Nat
def TR.f (t : TR) : List Value := [.string t.nm, .slice t.co t.cn t.cc, .slice t.xo t.xn t.xc, .int .i64 t.hd, .slice t.ro t.rn t.rc]
abbrev TR.cells (t : TR) : Array Value := #[.string t.nm, .slice t.co t.cn t.cc, .slice t.xo t.xn t.xc, .int .i64 t.hd, .slice t.ro t.rn t.rc]
def totC (fr : List Tn) : Nat := (fr.map fun t => t.cols.length).sum
theorem totC_take (fr : List Tn) (k : Nat) (hk : k < fr.length) : totC (fr.take (k + 1)) = totC (fr.take k) + fr[k].cols.length := by
  unfold totC
  rw [List.take_add_one, List.getElem?_eq_getElem hk, List.map_append, List.sum_append]
  simp
theorem totC_le (fr : List Tn) (k : Nat) : totC (fr.take k) ≤ totC fr := by
  unfold totC
  conv => rhs; rw [← List.take_append_drop k fr, List.map_append, List.sum_append]
  omega
theorem fi_wrapL {k m : Nat} (h : k < m) (hb : m ≤ 9223372036854775806) : wrap64 ((k : Int) + 1) = (k : Int) + 1 := by unfold wrap64; omega
structure FrAt (w : World) (s : Sv) (fr : List Tn) : Prop where
  fn : s.fn = fr.length
  nn : s.nn = fr.length
  le : fr.length ≤ 9223372036854775806
  tot : totC fr ≤ 9223372036854775806
  tab : ∀ k (h : k < fr.length), ∃ b off, ∃ r : TR, s.fo = some ⟨b, off, none⟩ ∧ b < w.heap.size ∧ (∀ j u, r.f[j]? = some u → w.cell? ⟨b, off + k * 5 + j, none⟩ = some u) ∧ r.cn = fr[k].cols.length ∧ CsAt w r.co fr[k].cols
  nam : ∀ k (h : k < fr.length), ∃ b off, s.no = some ⟨b, off, none⟩ ∧ b < w.heap.size ∧ w.cell? ⟨b, off + k, none⟩ = some (.string fr[k].name)
theorem FrAt.keep {w w' : World} {s : Sv} {fr : List Tn} (h : FrAt w s fr) (hg : Gr w w') : FrAt w' s fr where
  fn := h.fn
  nn := h.nn
  le := h.le
  tot := h.tot
  tab := fun k hk => by
    obtain ⟨b, off, r, h1, h2, h3, h4, h5⟩ := h.tab k hk
    exact ⟨b, off, r, h1, Nat.lt_of_lt_of_le h2 hg.size, fun j u hu => hg.keep (h3 j u hu), h4, h5.keep hg⟩
  nam := fun k hk => by
    obtain ⟨b, off, h1, h2, h3⟩ := h.nam k hk
    exact ⟨b, off, h1, Nat.lt_of_lt_of_le h2 hg.size, hg.keep h3⟩
def Xp (q : Ex × Int × Int) (w : World) (e : Ending) (w' : World) : Prop := ∃ r : XR, e = .returned (.tuple #[XR.val r, .int .i64 q.2.1, .int .i64 q.2.2]) ∧ Ex.At (Nw w) w' q.1 r ∧ Gr w w'
abbrev Fd := List (Nat × Nat × Int)
def lastH (F : Fd) : Hd := match F.getLast? with
  | some (t, c, _) => { op := 3, t := t, c := c }
  | none => { op := 0 }
def lastK (F : Fd) : Int := match F.getLast? with
  | some (_, _, k) => k
  | none => 0
theorem lastH_snoc (F : Fd) (t c : Nat) (k : Int) : lastH (F ++ [(t, c, k)]) = { op := 3, t := t, c := c } := by unfold lastH; rw [List.getLast?_concat]
theorem lastK_snoc (F : Fd) (t c : Nat) (k : Int) : lastK (F ++ [(t, c, k)]) = k := by unfold lastK; rw [List.getLast?_concat]
abbrev foundX (F : Fd) : Array Value := XR.cells ⟨lastH F, none, 0, 0⟩
theorem brings_row {P : Program} {o : Oper} {a : Act} {w : World} {R : Value → World → Prop} (ty : TypeId) (x y : Operand) (ho : o.op = .store ty x y)
    (g : Nat) (cells : Array Value) (hx : a.eval x = .pointer (some ⟨g, 0, none⟩)) (hy : a.eval y = .agg cells)
    (t : TypeId) (old : Array Value) (hg : w.heap[g]? = some (.cells old t (0, 0))) (hi : (P.info? ty).map (·.size) = some cells.size)
    (hold : old.size = cells.size) (h1 : cells.all (·.oneCell') = true)
    (h : ∀ W, W.heap[g]? = some (.cells cells t (0, 0)) → Go1 g w W → W.heap.size = w.heap.size → R undef W) : Rg.BringsS P R ((execOp a.eval o).run P w) := by
  unfold execOp
  simp only [ho, hx, hy, Instr.storeAt, Instr.sureAddr, Sem.run_bind, Sem.run_pure, Result.andThen_ok, run_storeVar_row w g t ty old cells hg hi hold h1]
  exact h _ (setRow_heap w g old cells t (0, 0) hg) (Go1.row g w cells) (by simp [World.setRow])
def HitS (bO : Nat) (Wc : World) (cs : Array Value) (s : Nat) (v : Nat → Value) (W : World) : Prop := if s = 0 then Gr Wc W else ∃ W0, Gr Wc W0 ∧ Go1 bO W0 W ∧ W.heap[bO]? = some (.cells cs 26 (0, 0))
section
variable {bO s : Nat} {Wc W W' : World} {cs : Array Value} {v : Nat → Value}
theorem hits0 (h : Gr Wc W) : HitS bO Wc cs 0 v W := by unfold HitS; rw [if_pos rfl]; exact h
theorem hits_0 (h : HitS bO Wc cs 0 v W) : Gr Wc W := by unfold HitS at h; rw [if_pos rfl] at h; exact h
theorem hits1 (h : Gr Wc W) (h2 : Go1 bO W W') (h3 : W'.heap[bO]? = some (.cells cs 26 (0, 0))) : HitS bO Wc cs 1 v W' := by unfold HitS; rw [if_neg (by decide)]; exact ⟨W, h, h2, h3⟩
theorem hits_1 (h : HitS bO Wc cs 1 v W) : ∃ W0, Gr Wc W0 ∧ Go1 bO W0 W ∧ W.heap[bO]? = some (.cells cs 26 (0, 0)) := by unfold HitS at h; rw [if_neg (by decide)] at h; exact h
theorem HitS.go (h : HitS bO Wc cs s v W) : Go1 bO Wc W := by
  unfold HitS at h
  split at h
  · exact .of h
  · obtain ⟨W0, h1, h2, _⟩ := h; exact (Go1.of h1).trans h2
end
theorem gr_drewN (w : World) : ∀ n, Gr w (w.drewN n) := fun n => ⟨rfl, rfl, rfl, Nat.le_refl _, fun _ _ => rfl⟩
structure ClRel (h : Hd) (t : Nat) (cols : List Cn) (F0 : Fd) (T0 bO : Nat) (W1 : World) (s7 s8 s38 : Value) (wr : World) : Prop where
  ex : ∃ (i : Nat) (F : Fd), s38 = .int .i64 (i : Int) ∧ i ≤ cols.length ∧ s7 = .int .i64 (F.length : Int) ∧ s8 = .int .i64 (lastK F) ∧ F ++ colsN h t (cols.drop i) i = F0 ++ colsN h t cols 0 ∧ F.length ≤ T0 + i ∧ Go1 bO W1 wr ∧ wr.heap[bO]? = some (.cells (foundX F) 26 (0, 0))
structure NmRel (h : Hd) (fr : List Tn) (bO : Nat) (W0 : World) (s7 s8 s17 : Value) (wr : World) : Prop where
  ex : ∃ (k : Nat) (F : Fd), s17 = .int .i64 (k : Int) ∧ k ≤ fr.length ∧ s7 = .int .i64 (F.length : Int) ∧ s8 = .int .i64 (lastK F) ∧ F ++ tabsN h (fr.drop k) k = tabsN h fr 0 ∧ F.length ≤ totC (fr.take k) ∧ Go1 bO W0 wr ∧ wr.heap[bO]? = some (.cells (foundX F) 26 (0, 0))
theorem colsN_drop (h : Hd) (t : Nat) (cols : List Cn) (i : Nat) (hi : i < cols.length) : colsN h t (cols.drop i) i = if cols[i].name.toList == h.name.toList then (t, i, cols[i].ty) :: colsN h t (cols.drop (i + 1)) (i + 1) else colsN h t (cols.drop (i + 1)) (i + 1) := by
  rw [List.drop_eq_getElem_cons hi, colsN]
theorem tabsN_drop (h : Hd) (fr : List Tn) (k : Nat) (hk : k < fr.length) : tabsN h (fr.drop k) k = if h.tab.toList != [] && h.tab.toList != fr[k].name.toList then tabsN h (fr.drop (k + 1)) (k + 1) else colsN h k fr[k].cols 0 ++ tabsN h (fr.drop (k + 1)) (k + 1) := by
  rw [List.drop_eq_getElem_cons hk, tabsN]
section
variable {h : Hd} {t : Nat} {cols : List Cn} {F0 F : Fd} {T0 bO : Nat} {W1 wr wr' : World} {i : Nat}
theorem cl_hit (hi : i < cols.length) (e : (cols[i].name.toList == h.name.toList) = true) (hF : F ++ colsN h t (cols.drop i) i = F0 ++ colsN h t cols 0) (hl : F.length ≤ T0 + i) (hg : Go1 bO W1 wr) (hg' : Go1 bO wr wr')
    (hb : wr'.heap[bO]? = some (.cells (XR.cells ⟨{ op := 3, t := (t : Int), c := (i : Int) }, none, 0, 0⟩) 26 (0, 0))) : ClRel h t cols F0 T0 bO W1 (.int .i64 ((F.length : Int) + 1)) (.int .i64 cols[i].ty) (.int .i64 ((i : Int) + 1)) wr' := by
  rw [colsN_drop h t cols i hi, if_pos e] at hF
  refine ⟨i + 1, F ++ [(t, i, cols[i].ty)], by simp, hi, by simp, by rw [lastK_snoc], by rw [← hF]; simp, by simp; omega, hg.trans hg', ?_⟩
  rw [foundX, lastH_snoc]; exact hb
theorem cl_miss (hi : i < cols.length) (e : (cols[i].name.toList == h.name.toList) = false) (hF : F ++ colsN h t (cols.drop i) i = F0 ++ colsN h t cols 0) (hl : F.length ≤ T0 + i) (hg : Go1 bO W1 wr) (hg' : Gr wr wr')
    (hb : wr.heap[bO]? = some (.cells (foundX F) 26 (0, 0))) : ClRel h t cols F0 T0 bO W1 (.int .i64 (F.length : Int)) (.int .i64 (lastK F)) (.int .i64 ((i : Int) + 1)) wr' := by
  rw [colsN_drop h t cols i hi, if_neg (by rw [e]; decide)] at hF
  exact ⟨i + 1, F, by simp, hi, rfl, rfl, hF, by omega, hg.block2 hg', by rw [hg'.block _ (lt_of_block hb)]; exact hb⟩
variable {fr : List Tn} {k : Nat} {W0 : World}
theorem nm_miss (hk : k < fr.length) (e : (h.tab.toList != [] && h.tab.toList != fr[k].name.toList) = true) (hF : F ++ tabsN h (fr.drop k) k = tabsN h fr 0) (hl : F.length ≤ totC (fr.take k)) (hg : Go1 bO W0 wr) (hg' : Gr wr wr')
    (hb : wr.heap[bO]? = some (.cells (foundX F) 26 (0, 0))) : NmRel h fr bO W0 (.int .i64 (F.length : Int)) (.int .i64 (lastK F)) (.int .i64 ((k : Int) + 1)) wr' := by
  rw [tabsN_drop h fr k hk, if_pos e] at hF
  exact ⟨k + 1, F, by simp, hk, rfl, rfl, hF, by rw [totC_take fr k hk]; omega, hg.block2 hg', by rw [hg'.block _ (lt_of_block hb)]; exact hb⟩
theorem nm_hit (hk : k < fr.length) (e : (h.tab.toList != [] && h.tab.toList != fr[k].name.toList) = false) (hF0 : F0 ++ tabsN h (fr.drop k) k = tabsN h fr 0) (hF : F = F0 ++ colsN h k fr[k].cols 0) (hl : F.length ≤ totC (fr.take k) + fr[k].cols.length) (hg : Go1 bO W0 wr)
    (hb : wr.heap[bO]? = some (.cells (foundX F) 26 (0, 0))) : NmRel h fr bO W0 (.int .i64 (F.length : Int)) (.int .i64 (lastK F)) (.int .i64 ((k : Int) + 1)) wr := by
  rw [tabsN_drop h fr k hk, if_neg (by rw [e]; decide), ← List.append_assoc, ← hF] at hF0
  exact ⟨k + 1, F, by simp, hk, rfl, rfl, hF0, by rw [totC_take fr k hk]; exact hl, hg, hb⟩
end
theorem nameK_one (fr : List Tn) (h : Hd) (F : Fd) (hF : F = tabsN h fr 0) (h1 : F.length = 1) : bnameK fr h = (.mk (lastH F) [], lastK F, 0) := by
  unfold bnameK
  rw [← hF]
  match F, h1 with
  | [(t, c, k)], _ => rfl
theorem nameK_no (fr : List Tn) (h : Hd) (F : Fd) (hF : F = tabsN h fr 0) (h1 : F.length ≠ 1) : bnameK fr h = (noE, 0, 190) := by
  unfold bnameK
  rw [← hF]
  match F, h1 with
  | [], _ => rfl
  | [_], h1 => simp at h1
  | _ :: _ :: _, _ => rfl
theorem leaf_at {S : Nat → Prop} {w : World} (h : Hd) : Ex.At S w (.mk h []) ⟨h, none, 0, 0⟩ := by
  unfold Ex.At
  exact ⟨rfl, rfl, fit_le 0 (by decide), [], rfl, .inl rfl, Exs.At.nil⟩
set_option maxHeartbeats 16000000 in
set_option maxRecDepth 100000 in
theorem bname_any (s : Sv) (aggs in_ : Bool) (fr : List Tn) (rh : Hd) (roa : Option Addr) (rn rc : Nat) (w : World) (hF : FrAt w s fr) : Calls Tryz.prog 38 #[s.val aggs in_, XR.val ⟨rh, roa, rn, rc⟩] w (Xp (bnameK fr rh) w) := by
  obtain ⟨W0, hW0⟩ : ∃ W0, (((w.alloc (.cells #[.slice s.fo s.fn s.fc, .slice s.no s.nn s.nc, .bool aggs, .bool in_] 72)).alloc (.cells (XR.cells ⟨rh, roa, rn, rc⟩) 26)).alloc (.cells zeroX 26)).alloc (.cells zeroX 26) = W0 := ⟨_, rfl⟩
  have HW0 := hid hW0
  have HG0 : Hid (Gr w W0) := hid (by rw [← hW0]; exact ((((Gr.refl w).alloc _).alloc _).alloc _).alloc _)
  have HS : Hid (W0.heap[w.heap.size]? = some (.cells #[.slice s.fo s.fn s.fc, .slice s.no s.nn s.nc, .bool aggs, .bool in_] 72 (0, 0))) := hid (by rw [← hW0]; exact ((((Gr.refl _).alloc _).alloc _).alloc _ |>.block _ (by rw [World.size_alloc]; exact Nat.lt_succ_self _)).trans (alloc_at _ _))
  have HE : Hid (W0.heap[w.heap.size + 1]? = some (.cells (XR.cells ⟨rh, roa, rn, rc⟩) 26 (0, 0))) := hid (by rw [← hW0]; exact (((Gr.refl _).alloc _).alloc _ |>.block _ (by simp)).trans (at_2 _ _ _))
  have HR : Hid (W0.heap[w.heap.size + 1 + 1]? = some (.cells zeroX 26 (0, 0))) := hid (by rw [← hW0]; exact ((Gr.refl _).alloc _ |>.block _ (by simp)).trans (at_3 _ _ _ _))
  have HO : Hid (W0.heap[w.heap.size + 1 + 1 + 1]? = some (.cells zeroX 26 (0, 0))) := hid (by rw [← hW0]; exact at_4 _ _ _ _ _)
  have HZ : Hid (W0.heap.size = w.heap.size + 4) := hid (by rw [← hW0]; simp)
  have HF := hid hF
  clear hW0 hF
  have HQ : Hid (∀ e w', (∃ r : XR, e = .returned (.tuple #[XR.val r, .int .i64 (bnameK fr rh).2.1, .int .i64 (bnameK fr rh).2.2]) ∧ Ex.At (Nw w) w' (bnameK fr rh).1 r ∧ Gr w w') → Xp (bnameK fr rh) w e w') := hid (fun e w' h => h)
  generalize Xp (bnameK fr rh) w = Q at *
  obtain ⟨op, ⟨vt, vn, vs, vb⟩, tab, name, tt, cc, nt, st⟩ := rh
  obtain ⟨fo, fn, fc, no, nn, nc⟩ := s
  obtain rfl : fn = fr.length := HF.out.fn
  obtain rfl : nn = fr.length := HF.out.nn
  unfold XR.val Sv.val
  go_enter Tryz.func38, Tryz.ntmps38
  go_wp2_with fail
  rw [HW0.out]
  go_loopw [7, 8, 17] (fun s7 s8 s17 wr => NmRel ⟨op, ⟨vt, vn, vs, vb⟩, tab, name, tt, cc, nt, st⟩ fr (w.heap.size + 1 + 1 + 1) W0 s7 s8 s17 wr) (fun _ _ s17 _ => fr.length - (intOf s17).toNat)
  · exact ⟨0, [], rfl, Nat.zero_le _, rfl, rfl, rfl, Nat.zero_le _, .refl _ _, HO.out⟩
  · obtain ⟨k, F, rfl, hk, rfl, rfl, hF, hl, hg, hb⟩ := hrel.ex
    clear hrel
    have hlo := HZ.out
    have hS : wr.heap[w.heap.size]? = some (.cells #[.slice fo fr.length fc, .slice no fr.length nc, .bool aggs, .bool in_] 72 (0, 0)) := by rw [hg.get (by omega) (by omega)]; exact HS.out
    have hE : wr.heap[w.heap.size + 1]? = some (.cells (XR.cells ⟨⟨op, ⟨vt, vn, vs, vb⟩, tab, name, tt, cc, nt, st⟩, roa, rn, rc⟩) 26 (0, 0)) := by rw [hg.get (by omega) (by omega)]; exact HE.out
    have hR : wr.heap[w.heap.size + 1 + 1]? = some (.cells zeroX 26 (0, 0)) := by rw [hg.get (by omega) (by omega)]; exact HR.out
    have HG := hid hg
    have HB := hid hb
    have H38 := hid hF
    have HL := hid hl
    have HR9 := hid hR
    by_cases hkn : k < fr.length
    · have t0 : decide ((k : Int) < (fr.length : Int)) = true := fi_dec hkn
      have g1 : (k : Int) < (fr.length : Int) := fi_lt hkn
      have HWK : Hid _ := hid (fi_wrapL hkn HF.out.le)
      have HMS := hid (in_ms hkn)
      have hfr : totC (fr.take k) + fr[k].cols.length ≤ 9223372036854775806 := by rw [← totC_take fr k hkn]; exact Nat.le_trans (totC_le fr (k + 1)) HF.out.tot
      obtain ⟨b, off, ⟨nm0, co, cn0, cc0, xo, xn, xc, hd0, ro, rn2, rc2⟩, hfo, hbl, hcs, hcn, hcols⟩ := HF.out.tab k hkn
      obtain ⟨b2, off2, hno, hbl2, hcn2⟩ := HF.out.nam k hkn
      have hfo' : fo = some ⟨b, off, none⟩ := hfo
      have hno' : no = some ⟨b2, off2, none⟩ := hno
      subst hfo' hno'
      clear hfo hno
      have hwr := hg.size
      have hbr : b < wr.heap.size := by have := HG0.out.size; omega
      have hbr2 : b2 < wr.heap.size := by have := HG0.out.size; omega
      have hc' : ∀ j u, (TR.mk nm0 co cn0 cc0 xo xn xc hd0 ro rn2 rc2).f[j]? = some u → wr.cell? ⟨b, off + k * 5 + j, none⟩ = some u := fun j u hu => hg.keep (HG0.out.keep (hcs j u hu)) (by omega)
      have c0 := hc' 0 _ rfl
      have c1 := hc' 1 _ rfl
      have c2 := hc' 2 _ rfl
      have c3 := hc' 3 _ rfl
      have c4 := hc' 4 _ rfl
      simp only [Nat.add_zero] at c0
      have cn : wr.cell? ⟨b2, off2 + k, none⟩ = some (.string fr[k].name) := hg.keep (HG0.out.keep hcn2) (by omega)
      have HCOL : Hid (∀ i (h : i < fr[k].cols.length), ∃ b off nn uq, co = some ⟨b, off, none⟩ ∧ b < w.heap.size ∧ ∀ W, Go1 (w.heap.size + 1 + 1 + 1) wr W → ∀ j u, (colF fr[k].cols[i] nn uq)[j]? = some u → W.cell? ⟨b, off + i * 4 + j, none⟩ = some u) := hid (fun i hi => by
        obtain ⟨b3, off3, n3, u3, e1, e2, e3⟩ := hcols i hi
        exact ⟨b3, off3, n3, u3, e1, e2, fun W h j u hu => h.keep (hg.keep (HG0.out.keep (e3 j u hu)) (by omega)) (by omega)⟩)
      have HM : Hid ((tab.toList != [] && tab.toList != fr[k].name.toList) = true → ∀ W, Gr wr W → NmRel ⟨op, ⟨vt, vn, vs, vb⟩, tab, name, tt, cc, nt, st⟩ fr (w.heap.size + 1 + 1 + 1) W0 (.int .i64 (F.length : Int)) (.int .i64 (lastK F)) (.int .i64 ((k : Int) + 1)) W) := hid (fun e W h => nm_miss hkn e hF hl hg h hb)
      have HH : Hid ((tab.toList != [] && tab.toList != fr[k].name.toList) = false → ∀ (F' : Fd) W, F' = F ++ colsN ⟨op, ⟨vt, vn, vs, vb⟩, tab, name, tt, cc, nt, st⟩ k fr[k].cols 0 → F'.length ≤ totC (fr.take k) + fr[k].cols.length → Go1 (w.heap.size + 1 + 1 + 1) W0 W → W.heap[w.heap.size + 1 + 1 + 1]? = some (.cells (foundX F') 26 (0, 0)) → NmRel ⟨op, ⟨vt, vn, vs, vb⟩, tab, name, tt, cc, nt, st⟩ fr (w.heap.size + 1 + 1 + 1) W0 (.int .i64 (F'.length : Int)) (.int .i64 (lastK F')) (.int .i64 ((k : Int) + 1)) W) := hid (fun e F' W e1 e2 e3 e4 => nm_hit hkn e hF e1 e2 e3 e4)
      have hcn' : cn0 = fr[k].cols.length := hcn
      subst hcn'
      clear hc' hcs hcols hcn2 hcn hk hl hF hb
      generalize fr[k].name = nm at *
      generalize totC (fr.take k) = T0 at *
      generalize fr[k].cols = cols at *
      have HA5 : Hid (Gr wr (wr.alloc (.cells (TR.cells ⟨nm0, co, cols.length, cc0, xo, xn, xc, hd0, ro, rn2, rc2⟩) 41))) := hid ((Gr.refl _).alloc _)
      have HT5 : Hid ((wr.alloc (.cells (TR.cells ⟨nm0, co, cols.length, cc0, xo, xn, xc, hd0, ro, rn2, rc2⟩) 41)).heap[wr.heap.size]? = some (.cells (TR.cells ⟨nm0, co, cols.length, cc0, xo, xn, xc, hd0, ro, rn2, rc2⟩) 41 (0, 0))) := hid (alloc_at _ _)
      have HS5 := hid hS
      have HE5 := hid hE
      clear hS hE hR
      obtain ⟨y1, e1⟩ : ∃ x, (tab.toList == []) = x := ⟨_, rfl⟩
      obtain ⟨y2, e2⟩ : ∃ x, (tab.toList == nm.toList) = x := ⟨_, rfl⟩
      go_upto_region 6 with fail
      generalize hW5 : World.alloc wr _ = W5
      rw [show (World.alloc wr (.cells (TR.cells ⟨nm0, co, cols.length, cc0, xo, xn, xc, hd0, ro, rn2, rc2⟩) 41)) = W5 from hW5] at HA5 HT5
      have cS := Rg.blk_cells ((HA5.out.block _ (lt_of_block HS5.out)).trans HS5.out)
      have cE := Rg.blk_cells ((HA5.out.block _ (lt_of_block HE5.out)).trans HE5.out)
      have cT := Rg.blk_cells HT5.out
      have cn5 := HA5.out.keep cn
      clear hW5 c0 c1 c2 c3 c4 cn
      have e1n : (tab.toList != []) = !y1 := by rw [← e1]; rfl
      have e2n : (tab.toList != nm.toList) = !y2 := by rw [← e2]; rfl
      have e1e : tab.toList.isEmpty = y1 := by rw [← e1]; cases tab.toList <;> rfl
      rw [e1n, e2n] at HM HH
      cases y1 with
      | false =>
        cases y2 with
        | false =>
          have HMM := hid (HM.out rfl)
          clear HM HH HCOL
          go_quiet (fail)
          go_wp2_with fail
          rw [HWK.out]
          exact ⟨HMM.out _ (HA5.out.trans (gr_drewN W5 nq)), HMS.out⟩
        | true =>
          have HHH := hid (HH.out rfl)
          clear HM HH
          have lE5 : w.heap.size + 1 < W5.heap.size := Nat.lt_of_lt_of_le (lt_of_block HE5.out) HA5.out.size
          have lS5 : w.heap.size < W5.heap.size := Nat.lt_of_lt_of_le (lt_of_block HS5.out) HA5.out.size
          have l5 : b2 < W5.heap.size := Nat.lt_of_lt_of_le hbr2 HA5.out.size
          refine Rg.region_text 12 (Below.drew (Below.refl _ _)) (by kernel_rfl) (by kernel_rfl) (fun _ _ d _ _ h => by cases d <;> exact h) ?_
          simp only [List.append_eq, List.cons_append, List.nil_append, List.take_succ_cons, List.take_zero, List.drop_succ_cons, List.drop_zero]
          repeat (first
              | (refine Rg.wpDets_skip (by rfl) ?_; simp only [Act.put, List.setIfInBounds_toArray, List.set_cons_zero, List.set_cons_succ])
              | (refine Rg.wpDets_step ?_ (by rfl) (fun w hS => ?_) ?_
                 rotate_left
                 · have hc := Gr.cells hS
                   have hf := Gr.frees hS
                   go_simp
                   first
                   | (refine ⟨?_, Below.refl _ _⟩; with_reducible rfl)
                 simp only [Act.put, List.setIfInBounds_toArray, List.set_cons_zero, List.set_cons_succ]))
          refine Rg.wpDets_nil ?_
          refine Rg.wpFlts_nil ?_
          refine Rg.wpLays_nil ?_
          intro w1 hK
          have hg : Gr _ w1 := hK.up
          have hc := Gr.cells hg
          have hf := Gr.frees hg
          have hz := Gr.size hg
          try simp only [World.size_alloc, World.size_setCell, World.size_drew] at hz
          try have : 0 < w1.heap.size := by omega
          try have : w.heap.size < w1.heap.size := by omega
          have HD := hid hg
          clear hc hf hz e1 e1n e1e e2 e2n lE5 lS5 l5
          generalize w1 = W6 at *
          have cT6 := Rg.blk_cells ((HD.out.block _ (lt_of_block HT5.out)).trans HT5.out)
          go_wp2_with fail
          clear cT6
          have HG6 : Hid (Gr wr W6) := hid (HA5.out.trans HD.out)
          have HT6 : Hid (W6.heap[wr.heap.size]? = some (.cells (TR.cells ⟨nm0, co, cols.length, cc0, xo, xn, xc, hd0, ro, rn2, rc2⟩) 41 (0, 0))) := hid ((HD.out.block _ (lt_of_block HT5.out)).trans HT5.out)
          have HE6 : Hid (W6.heap[w.heap.size + 1]? = some (.cells (XR.cells ⟨⟨op, ⟨vt, vn, vs, vb⟩, tab, name, tt, cc, nt, st⟩, roa, rn, rc⟩) 26 (0, 0))) := hid ((HG6.out.block _ (lt_of_block HE5.out)).trans HE5.out)
          have HBO : Hid (w.heap.size + 1 + 1 + 1 < wr.heap.size) := hid (lt_of_block HB.out)
          clear cS cE cT cn5 HA5 HT5 HD HS5
          generalize wr = wv at *
          go_loopw [7, 8, 38] (fun s7 s8 s38 wr => ClRel ⟨op, ⟨vt, vn, vs, vb⟩, tab, name, tt, cc, nt, st⟩ k cols F T0 (w.heap.size + 1 + 1 + 1) W6 s7 s8 s38 wr) (fun _ _ s38 _ => cols.length - (intOf s38).toNat)
          · exact ⟨0, F, rfl, Nat.zero_le _, rfl, rfl, rfl, Nat.le_trans HL.out (Nat.le_add_right _ _), .refl _ _, ((HG6.out.block _ (lt_of_block HB.out)).trans HB.out)⟩
          · obtain ⟨i, F2, rfl, hi, rfl, rfl, hF2, hl2, hg2, hb2⟩ := hrel.ex
            clear hrel
            by_cases hin : i < cols.length
            · have t2 : decide ((i : Int) < (cols.length : Int)) = true := fi_dec hin
              have g2 : (i : Int) < (cols.length : Int) := fi_lt hin
              have HWI : Hid _ := hid (fi_wrapL hin (by omega))
              have HMI := hid (in_ms hin)
              obtain ⟨b3, off3, n3, u3, hco, hbl3, hcs3⟩ := HCOL.out i hin
              have hco' : co = some ⟨b3, off3, none⟩ := hco
              subst hco'
              have hc3 := hcs3 wr ((Go1.of HG6.out).trans hg2)
              have d0 := hc3 0 _ rfl
              have d1 := hc3 1 _ rfl
              have d2 := hc3 2 _ rfl
              have d3 := hc3 3 _ rfl
              simp only [Nat.add_zero] at d0
              have hb3 : b3 < wr.heap.size := by have := hg2.size; have := HG6.out.size; have := HG0.out.size; have := HZ.out; have := HBO.out; omega
              have HEq : Hid (wr.heap[w.heap.size + 1]? = some (.cells (XR.cells ⟨⟨op, ⟨vt, vn, vs, vb⟩, tab, name, tt, cc, nt, st⟩, roa, rn, rc⟩) 26 (0, 0))) := hid (by rw [hg2.get (lt_of_block HE6.out) (by omega)]; exact HE6.out)
              have HMISS : Hid ((cols[i].name.toList == name.toList) = false → ∀ W, Gr wr W → ClRel ⟨op, ⟨vt, vn, vs, vb⟩, tab, name, tt, cc, nt, st⟩ k cols F T0 (w.heap.size + 1 + 1 + 1) W6 (.int .i64 (F2.length : Int)) (.int .i64 (lastK F2)) (.int .i64 ((i : Int) + 1)) W) := hid (fun e W h => cl_miss hin e hF2 hl2 hg2 h hb2)
              have HHIT : Hid ((cols[i].name.toList == name.toList) = true → ∀ W, Go1 (w.heap.size + 1 + 1 + 1) wr W → W.heap[w.heap.size + 1 + 1 + 1]? = some (.cells (XR.cells ⟨{ op := 3, t := (k : Int), c := (i : Int) }, none, 0, 0⟩) 26 (0, 0)) → ClRel ⟨op, ⟨vt, vn, vs, vb⟩, tab, name, tt, cc, nt, st⟩ k cols F T0 (w.heap.size + 1 + 1 + 1) W6 (.int .i64 ((F2.length : Int) + 1)) (.int .i64 cols[i].ty) (.int .i64 ((i : Int) + 1)) W) := hid (fun e W h1 h2 => cl_hit hin e hF2 hl2 hg2 h1 h2)
              have HB2 := hid hb2
              have HWF : Hid (wrap64 ((F2.length : Int) + 1) = (F2.length : Int) + 1) := hid (by unfold wrap64; omega)
              have HNE3 : Hid (wr.heap.size ≠ w.heap.size + 1 + 1 + 1) := hid (by have := lt_of_block hb2; omega)
              clear hc3 hcs3 hco hF2 hl2 hg2 hb2 hi HCOL
              generalize cols[i].name = cnm at *
              generalize cols[i].ty = cty at *
              obtain ⟨z, z1⟩ : ∃ x, (cnm.toList == name.toList) = x := ⟨_, rfl⟩
              rw [z1] at HMISS HHIT
              go_upto_region 10 with fail
              generalize hWc : World.alloc wr _ = Wc
              have HAc : Hid (Gr wr Wc) := hid (by rw [← hWc]; exact (Gr.refl _).alloc _)
              have HCc : Hid (Wc.heap[wr.heap.size]? = some (.cells #[.string cnm, .int .i64 cty, .bool n3, .bool u3] 44 (0, 0))) := hid (by rw [← hWc]; exact alloc_at _ _)
              have HEc : Hid (Wc.heap[w.heap.size + 1]? = some (.cells (XR.cells ⟨⟨op, ⟨vt, vn, vs, vb⟩, tab, name, tt, cc, nt, st⟩, roa, rn, rc⟩) 26 (0, 0))) := hid ((HAc.out.block _ (lt_of_block HEq.out)).trans HEq.out)
              have HBc : Hid (Wc.heap[w.heap.size + 1 + 1 + 1]? = some (.cells (foundX F2) 26 (0, 0))) := hid ((HAc.out.block _ (lt_of_block HB2.out)).trans HB2.out)
              have cE := Rg.blk_cells HEc.out
              have cC := Rg.blk_cells HCc.out
              clear hWc d0 d1 d2 d3
              cases z with
              | false =>
                have HMS2 := hid (HMISS.out rfl Wc HAc.out)
                clear HMISS HHIT HB2 HBc HHH
                go_wp2_with fail
                exact ⟨HMS2.out, HMI.out⟩
              | true =>
                have HHIT := hid (HHIT.out rfl)
                clear HMISS HHH
                go_upto_region 12 with fail
                rw [HWF.out]
                refine Rg.region_chain 6 [5] [] (HitS (w.heap.size + 1 + 1 + 1) Wc (XR.cells ⟨{ op := 3, t := (k : Int), c := (i : Int) }, none, 0, 0⟩)) [some (.int .i64 (k : Int)), some (.int .i64 (i : Int)), some (.agg (XR.cells ⟨{ op := 3, t := (k : Int), c := (i : Int) }, none, 0, 0⟩)), some (.pointer (some ⟨wr.heap.size, 1, none⟩)), some (.int .i64 cty), some undef]
                  (fun v => hits0 ((Gr.refl _).drew)) (by kernel_rfl) (by kernel_rfl) (by kernel_rfl) (by kernel_rfl) (fun _ _ d _ _ h => by cases d <;> exact h) ?_
                intro OPS _ v
                simp only [List.take_succ_cons, List.take_zero, Rg.wpC, Rg.wpS, Option.getD_some, Option.getD_none, Act.put, List.setIfInBounds_toArray, List.set_cons_zero, List.set_cons_succ, show List.contains [5] 0 = false from rfl, show List.contains [5] 1 = false from rfl, show List.contains [5] 2 = false from rfl, show List.contains [5] 3 = false from rfl, show List.contains [5] 4 = false from rfl, show List.contains [5] 5 = true from rfl, Bool.false_eq_true, if_false, if_true, Nat.reduceAdd]
                refine ⟨?_, ?_, ?_, ?_, ?_, ?_, ?_⟩
                · refine sc_still (by rfl) (by rfl) (fun s' W _ hS => ?_)
                  clear hS
                  go_simp
                · refine sc_still (by rfl) (by rfl) (fun s' W _ hS => ?_)
                  clear hS
                  go_simp
                · refine sc_still (by rfl) (by rfl) (fun s' W _ hS => ?_)
                  clear hS
                  go_simp
                  exact ⟨rfl, rfl, rfl, rfl⟩
                · refine sc_still (by rfl) (by rfl) (fun s' W _ hS => ?_)
                  clear hS
                  go_simp
                · refine sc_still (by rfl) (by rfl) (fun s' W _ hS => ?_)
                  have cW := Rg.blk_cells ((hS.go.get (lt_of_block HCc.out) HNE3.out).trans HCc.out)
                  clear hS
                  go_simp
                · refine sc_call (by rfl) (by rfl) (fun W hS => ?_)
                  have hS0 := hits_0 hS
                  refine brings_row (ty := 26) _ _ rfl (w.heap.size + 1 + 1 + 1) (XR.cells ⟨{ op := 3, t := (k : Int), c := (i : Int) }, none, 0, 0⟩) rfl rfl 26 _ ((hS0.block _ (lt_of_block HBc.out)).trans HBc.out) (by kernel_rfl) rfl (by kernel_rfl) ?_
                  intro W' h1 h2 _
                  exact ⟨rfl, hits1 hS0 h2 h1⟩
                · intro W hS
                  obtain ⟨W7, h7, h8, h9⟩ := hits_1 hS
                  simp only [List.drop_succ_cons, List.drop_zero]
                  have HEND := hid (HHIT.out W (((Go1.of HAc.out).trans (.of h7)).trans h8) h9)
                  clear hS h7 h8 h9 HHIT
                  go_wp2_with fail
                  exact ⟨HEND.out, HMI.out⟩
            · have t2 : decide ((i : Int) < (cols.length : Int)) = false := fi_dec0 hin
              have t2n : decide (i < cols.length) = false := fi_decn0 hin
              obtain rfl : i = cols.length := by omega
              have hFe : F2 = F ++ colsN ⟨op, ⟨vt, vn, vs, vb⟩, tab, name, tt, cc, nt, st⟩ k cols 0 := by rw [List.drop_length] at hF2; simpa [colsN] using hF2
              have HEND := hid (HHH.out F2 wr hFe hl2 ((HG.out.trans (.of HG6.out)).trans hg2) hb2)
              clear hFe hF2 hl2 hg2 hb2 HHH HCOL
              go_wp2_with fail
              rw [HWK.out]
              exact ⟨HEND.out, HMS.out⟩
      | true =>
        have HHH := hid (HH.out rfl)
        clear HM HH
        have lE5 : w.heap.size + 1 < W5.heap.size := Nat.lt_of_lt_of_le (lt_of_block HE5.out) HA5.out.size
        have lS5 : w.heap.size < W5.heap.size := Nat.lt_of_lt_of_le (lt_of_block HS5.out) HA5.out.size
        have l5 : b2 < W5.heap.size := Nat.lt_of_lt_of_le hbr2 HA5.out.size
        refine Rg.region_text 12 (Below.drew (Below.refl _ _)) (by kernel_rfl) (by kernel_rfl) (fun _ _ d _ _ h => by cases d <;> exact h) ?_
        simp only [List.append_eq, List.cons_append, List.nil_append, List.take_succ_cons, List.take_zero, List.drop_succ_cons, List.drop_zero]
        repeat (first
            | (refine Rg.wpDets_skip (by rfl) ?_; simp only [Act.put, List.setIfInBounds_toArray, List.set_cons_zero, List.set_cons_succ])
            | (refine Rg.wpDets_step ?_ (by rfl) (fun w hS => ?_) ?_
               rotate_left
               · have hc := Gr.cells hS
                 have hf := Gr.frees hS
                 go_simp
                 first
                 | (refine ⟨?_, Below.refl _ _⟩; with_reducible rfl)
               simp only [Act.put, List.setIfInBounds_toArray, List.set_cons_zero, List.set_cons_succ]))
        refine Rg.wpDets_nil ?_
        refine Rg.wpFlts_nil ?_
        refine Rg.wpLays_nil ?_
        intro w1 hK
        have hg : Gr _ w1 := hK.up
        have hc := Gr.cells hg
        have hf := Gr.frees hg
        have hz := Gr.size hg
        try simp only [World.size_alloc, World.size_setCell, World.size_drew] at hz
        try have : 0 < w1.heap.size := by omega
        try have : w.heap.size < w1.heap.size := by omega
        have HD := hid hg
        clear hc hf hz e1 e1n e1e e2 e2n lE5 lS5 l5
        generalize w1 = W6 at *
        have cT6 := Rg.blk_cells ((HD.out.block _ (lt_of_block HT5.out)).trans HT5.out)
        go_wp2_with fail
        clear cT6
        have HG6 : Hid (Gr wr W6) := hid (HA5.out.trans HD.out)
        have HT6 : Hid (W6.heap[wr.heap.size]? = some (.cells (TR.cells ⟨nm0, co, cols.length, cc0, xo, xn, xc, hd0, ro, rn2, rc2⟩) 41 (0, 0))) := hid ((HD.out.block _ (lt_of_block HT5.out)).trans HT5.out)
        have HE6 : Hid (W6.heap[w.heap.size + 1]? = some (.cells (XR.cells ⟨⟨op, ⟨vt, vn, vs, vb⟩, tab, name, tt, cc, nt, st⟩, roa, rn, rc⟩) 26 (0, 0))) := hid ((HG6.out.block _ (lt_of_block HE5.out)).trans HE5.out)
        have HBO : Hid (w.heap.size + 1 + 1 + 1 < wr.heap.size) := hid (lt_of_block HB.out)
        clear cS cE cT cn5 HA5 HT5 HD HS5
        generalize wr = wv at *
        go_loopw [7, 8, 38] (fun s7 s8 s38 wr => ClRel ⟨op, ⟨vt, vn, vs, vb⟩, tab, name, tt, cc, nt, st⟩ k cols F T0 (w.heap.size + 1 + 1 + 1) W6 s7 s8 s38 wr) (fun _ _ s38 _ => cols.length - (intOf s38).toNat)
        · exact ⟨0, F, rfl, Nat.zero_le _, rfl, rfl, rfl, Nat.le_trans HL.out (Nat.le_add_right _ _), .refl _ _, ((HG6.out.block _ (lt_of_block HB.out)).trans HB.out)⟩
        · obtain ⟨i, F2, rfl, hi, rfl, rfl, hF2, hl2, hg2, hb2⟩ := hrel.ex
          clear hrel
          by_cases hin : i < cols.length
          · have t2 : decide ((i : Int) < (cols.length : Int)) = true := fi_dec hin
            have g2 : (i : Int) < (cols.length : Int) := fi_lt hin
            have HWI : Hid _ := hid (fi_wrapL hin (by omega))
            have HMI := hid (in_ms hin)
            obtain ⟨b3, off3, n3, u3, hco, hbl3, hcs3⟩ := HCOL.out i hin
            have hco' : co = some ⟨b3, off3, none⟩ := hco
            subst hco'
            have hc3 := hcs3 wr ((Go1.of HG6.out).trans hg2)
            have d0 := hc3 0 _ rfl
            have d1 := hc3 1 _ rfl
            have d2 := hc3 2 _ rfl
            have d3 := hc3 3 _ rfl
            simp only [Nat.add_zero] at d0
            have hb3 : b3 < wr.heap.size := by have := hg2.size; have := HG6.out.size; have := HG0.out.size; have := HZ.out; have := HBO.out; omega
            have HEq : Hid (wr.heap[w.heap.size + 1]? = some (.cells (XR.cells ⟨⟨op, ⟨vt, vn, vs, vb⟩, tab, name, tt, cc, nt, st⟩, roa, rn, rc⟩) 26 (0, 0))) := hid (by rw [hg2.get (lt_of_block HE6.out) (by omega)]; exact HE6.out)
            have HMISS : Hid ((cols[i].name.toList == name.toList) = false → ∀ W, Gr wr W → ClRel ⟨op, ⟨vt, vn, vs, vb⟩, tab, name, tt, cc, nt, st⟩ k cols F T0 (w.heap.size + 1 + 1 + 1) W6 (.int .i64 (F2.length : Int)) (.int .i64 (lastK F2)) (.int .i64 ((i : Int) + 1)) W) := hid (fun e W h => cl_miss hin e hF2 hl2 hg2 h hb2)
            have HHIT : Hid ((cols[i].name.toList == name.toList) = true → ∀ W, Go1 (w.heap.size + 1 + 1 + 1) wr W → W.heap[w.heap.size + 1 + 1 + 1]? = some (.cells (XR.cells ⟨{ op := 3, t := (k : Int), c := (i : Int) }, none, 0, 0⟩) 26 (0, 0)) → ClRel ⟨op, ⟨vt, vn, vs, vb⟩, tab, name, tt, cc, nt, st⟩ k cols F T0 (w.heap.size + 1 + 1 + 1) W6 (.int .i64 ((F2.length : Int) + 1)) (.int .i64 cols[i].ty) (.int .i64 ((i : Int) + 1)) W) := hid (fun e W h1 h2 => cl_hit hin e hF2 hl2 hg2 h1 h2)
            have HB2 := hid hb2
            have HWF : Hid (wrap64 ((F2.length : Int) + 1) = (F2.length : Int) + 1) := hid (by unfold wrap64; omega)
            have HNE3 : Hid (wr.heap.size ≠ w.heap.size + 1 + 1 + 1) := hid (by have := lt_of_block hb2; omega)
            clear hc3 hcs3 hco hF2 hl2 hg2 hb2 hi HCOL
            generalize cols[i].name = cnm at *
            generalize cols[i].ty = cty at *
            obtain ⟨z, z1⟩ : ∃ x, (cnm.toList == name.toList) = x := ⟨_, rfl⟩
            rw [z1] at HMISS HHIT
            go_upto_region 10 with fail
            generalize hWc : World.alloc wr _ = Wc
            have HAc : Hid (Gr wr Wc) := hid (by rw [← hWc]; exact (Gr.refl _).alloc _)
            have HCc : Hid (Wc.heap[wr.heap.size]? = some (.cells #[.string cnm, .int .i64 cty, .bool n3, .bool u3] 44 (0, 0))) := hid (by rw [← hWc]; exact alloc_at _ _)
            have HEc : Hid (Wc.heap[w.heap.size + 1]? = some (.cells (XR.cells ⟨⟨op, ⟨vt, vn, vs, vb⟩, tab, name, tt, cc, nt, st⟩, roa, rn, rc⟩) 26 (0, 0))) := hid ((HAc.out.block _ (lt_of_block HEq.out)).trans HEq.out)
            have HBc : Hid (Wc.heap[w.heap.size + 1 + 1 + 1]? = some (.cells (foundX F2) 26 (0, 0))) := hid ((HAc.out.block _ (lt_of_block HB2.out)).trans HB2.out)
            have cE := Rg.blk_cells HEc.out
            have cC := Rg.blk_cells HCc.out
            clear hWc d0 d1 d2 d3
            cases z with
            | false =>
              have HMS2 := hid (HMISS.out rfl Wc HAc.out)
              clear HMISS HHIT HB2 HBc HHH
              go_wp2_with fail
              exact ⟨HMS2.out, HMI.out⟩
            | true =>
              have HHIT := hid (HHIT.out rfl)
              clear HMISS HHH
              go_upto_region 12 with fail
              rw [HWF.out]
              refine Rg.region_chain 6 [5] [] (HitS (w.heap.size + 1 + 1 + 1) Wc (XR.cells ⟨{ op := 3, t := (k : Int), c := (i : Int) }, none, 0, 0⟩)) [some (.int .i64 (k : Int)), some (.int .i64 (i : Int)), some (.agg (XR.cells ⟨{ op := 3, t := (k : Int), c := (i : Int) }, none, 0, 0⟩)), some (.pointer (some ⟨wr.heap.size, 1, none⟩)), some (.int .i64 cty), some undef]
                (fun v => hits0 ((Gr.refl _).drew)) (by kernel_rfl) (by kernel_rfl) (by kernel_rfl) (by kernel_rfl) (fun _ _ d _ _ h => by cases d <;> exact h) ?_
              intro OPS _ v
              simp only [List.take_succ_cons, List.take_zero, Rg.wpC, Rg.wpS, Option.getD_some, Option.getD_none, Act.put, List.setIfInBounds_toArray, List.set_cons_zero, List.set_cons_succ, show List.contains [5] 0 = false from rfl, show List.contains [5] 1 = false from rfl, show List.contains [5] 2 = false from rfl, show List.contains [5] 3 = false from rfl, show List.contains [5] 4 = false from rfl, show List.contains [5] 5 = true from rfl, Bool.false_eq_true, if_false, if_true, Nat.reduceAdd]
              refine ⟨?_, ?_, ?_, ?_, ?_, ?_, ?_⟩
              · refine sc_still (by rfl) (by rfl) (fun s' W _ hS => ?_)
                clear hS
                go_simp
              · refine sc_still (by rfl) (by rfl) (fun s' W _ hS => ?_)
                clear hS
                go_simp
              · refine sc_still (by rfl) (by rfl) (fun s' W _ hS => ?_)
                clear hS
                go_simp
                exact ⟨rfl, rfl, rfl, rfl⟩
              · refine sc_still (by rfl) (by rfl) (fun s' W _ hS => ?_)
                clear hS
                go_simp
              · refine sc_still (by rfl) (by rfl) (fun s' W _ hS => ?_)
                have cW := Rg.blk_cells ((hS.go.get (lt_of_block HCc.out) HNE3.out).trans HCc.out)
                clear hS
                go_simp
              · refine sc_call (by rfl) (by rfl) (fun W hS => ?_)
                have hS0 := hits_0 hS
                refine brings_row (ty := 26) _ _ rfl (w.heap.size + 1 + 1 + 1) (XR.cells ⟨{ op := 3, t := (k : Int), c := (i : Int) }, none, 0, 0⟩) rfl rfl 26 _ ((hS0.block _ (lt_of_block HBc.out)).trans HBc.out) (by kernel_rfl) rfl (by kernel_rfl) ?_
                intro W' h1 h2 _
                exact ⟨rfl, hits1 hS0 h2 h1⟩
              · intro W hS
                obtain ⟨W7, h7, h8, h9⟩ := hits_1 hS
                simp only [List.drop_succ_cons, List.drop_zero]
                have HEND := hid (HHIT.out W (((Go1.of HAc.out).trans (.of h7)).trans h8) h9)
                clear hS h7 h8 h9 HHIT
                go_wp2_with fail
                exact ⟨HEND.out, HMI.out⟩
          · have t2 : decide ((i : Int) < (cols.length : Int)) = false := fi_dec0 hin
            have t2n : decide (i < cols.length) = false := fi_decn0 hin
            obtain rfl : i = cols.length := by omega
            have hFe : F2 = F ++ colsN ⟨op, ⟨vt, vn, vs, vb⟩, tab, name, tt, cc, nt, st⟩ k cols 0 := by rw [List.drop_length] at hF2; simpa [colsN] using hF2
            have HEND := hid (HHH.out F2 wr hFe hl2 ((HG.out.trans (.of HG6.out)).trans hg2) hb2)
            clear hFe hF2 hl2 hg2 hb2 HHH HCOL
            go_wp2_with fail
            rw [HWK.out]
            exact ⟨HEND.out, HMS.out⟩
    · have t0 : decide ((k : Int) < (fr.length : Int)) = false := fi_dec0 hkn
      obtain rfl : k = fr.length := by omega
      have hFe : F = tabsN ⟨op, ⟨vt, vn, vs, vb⟩, tab, name, tt, cc, nt, st⟩ fr 0 := by rw [List.drop_length] at hF; simpa [tabsN] using hF
      clear H38 hF
      have HGR : Hid (∀ W, Go1 (w.heap.size + 1 + 1) wr W → Gr w W) := hid (fun W h => (Go1.up (Go1.up HG0.out hg (by omega) |> fun x => x) h (by omega)))
      have HGR' := HGR
      obtain ⟨x1, q1⟩ : ∃ x, (F.length == 1) = x := ⟨_, rfl⟩
      have q2 : ((F.length : Int) != 1) = !x1 := nat_ne F.length 1 x1 q1
      have q3 : ((F.length : Int) == 1) = x1 := nat_eq F.length 1 x1 q1
      cases x1 with
      | true =>
        have HNE : Hid _ := hid (nameK_one fr ⟨op, ⟨vt, vn, vs, vb⟩, tab, name, tt, cc, nt, st⟩ F hFe (by simpa using q1))
        have HFIN : Hid (∀ W, Go1 (w.heap.size + 1 + 1) wr W → Q (.returned (.tuple #[XR.val ⟨lastH F, none, 0, 0⟩, .int .i64 (lastK F), .int .i64 0])) W) := hid (fun W h => HQ.out _ W ⟨⟨lastH F, none, 0, 0⟩, by rw [HNE.out], by rw [HNE.out]; exact leaf_at _, HGR.out W h⟩)
        clear HNE HGR HGR' HQ hb hg hE hS hR hl hk q1 hFe HF HL HG
        unfold foundX at HB
        generalize lastK F = lk at *
        generalize lastH F = lh at *
        generalize F.length = n at *
        go_wp2_with (first | (guard_target =~ wpList _ _ _ (Oper.mk _ (Op.load 26 _) _ _ _ _ :: _) _ _; refine wpList_load_row rfl 26 _ rfl (w.heap.size + 1 + 1 + 1) rfl 26 (XR.cells ⟨lh, none, 0, 0⟩) (0, 0) _ HB.out Tryz.underlying26 rfl (by kernel_rfl) ?_) | (guard_target =~ wpList _ _ _ (Oper.mk _ (Op.store 26 _ _) _ _ _ _ :: _) _ _; refine st_row (ty := 26) rfl rfl (w.heap.size + 1 + 1) (XR.cells ⟨lh, none, 0, 0⟩) rfl rfl 26 _ HR9.out (by kernel_rfl) rfl (by kernel_rfl) ?_; intro W5 hW5 gW5 zW5; skip))
        have hT := Rg.blk_cells hW5
        (try change bodyPost _ _ _ _ _ _)
        refine bodyPost_ret (v := .tuple #[XR.val ⟨lh, none, 0, 0⟩, .int .i64 lk, .int .i64 0]) (by simp [results, Tryz.results38, go_sem, XR.val, nul, hT]; try rfl) rfl ?_
        exact HFIN.out W5 gW5
      | false =>
        have HNE : Hid _ := hid (nameK_no fr ⟨op, ⟨vt, vn, vs, vb⟩, tab, name, tt, cc, nt, st⟩ F hFe (by simpa using q1))
        have HFIN : Hid (∀ W, Go1 (w.heap.size + 1 + 1) wr W → Q (.returned (.tuple #[XR.val ⟨{ op := 0 }, none, 0, 0⟩, .int .i64 0, .int .i64 190])) W) := hid (fun W h => HQ.out _ W ⟨⟨{ op := 0 }, none, 0, 0⟩, by rw [HNE.out], by rw [HNE.out]; exact leaf_at _, HGR.out W h⟩)
        clear HNE HGR HGR' HQ hb hg hE hS hR hl hk q1 hFe HF HL HG
        generalize lastK F = lk at *
        generalize F.length = n at *
        go_wp2_with ((guard_target =~ wpList _ _ _ (Oper.mk _ (Op.store 26 _ _) _ _ _ _ :: _) _ _; refine st_row (ty := 26) rfl rfl (w.heap.size + 1 + 1) (XR.cells ⟨{ op := 0 }, none, 0, 0⟩) rfl rfl 26 _ HR9.out (by kernel_rfl) rfl (by kernel_rfl) ?_; intro W5 hW5 gW5 zW5; skip))
        have hT := Rg.blk_cells hW5
        (try change bodyPost _ _ _ _ _ _)
        refine bodyPost_ret (v := .tuple #[XR.val ⟨{ op := 0 }, none, 0, 0⟩, .int .i64 0, .int .i64 190]) (by simp [results, Tryz.results38, go_sem, XR.val, nul, hT]; try rfl) rfl ?_
        exact HFIN.out W5 gW5
end Go.Proofs.YtbeinfhgfflneaaGreat
end
section
namespace Go.Proofs.YtbeinfhgfflneaaGreat
open Go.RowKit
set_option linter.unusedVariables false
theorem as_good {s t : Ps} (h : As s t) (k : t.good = true) : s.good = true := by
  match t, k with
  | .ok l d, _ =>
    rcases h with h | h
    · cases h
    · cases s with
      | ok l' d' => rfl
      | bad e a => cases h
theorem fail_no (s : Ps) : ¬ (s.fail 180).good = true := by
  intro h
  match s, h with
  | .ok [] d, h => cases h
  | .ok (t :: r) d, h => cases h
  | .bad e a, h => cases h
theorem own_blk {w : World} {base g : Nat} {cs : Array Value} {r : XR} (h : w.heap[g]? = some (.cells cs 26 (0, 0))) (hcs : cs.toList = xF r) (hb : base ≤ g) : w.ownsRow base 26 12 (.slice (some ⟨g, 0, none⟩) 1 1) 1 (xF r) := by
  refine ⟨rfl, .inr ⟨g, 1, cs, rfl, hb, h, Nat.le_refl _, by decide, ?_, ?_⟩⟩
  · have := congrArg List.length hcs
    simpa [xF] using this
  · rw [hcs]; rfl
def LsS (p : Nat) (w : World) (S0 : Nat → Prop) (r : XR) (x : Ex) (q : List Ex × Ps) (s : Ps) (i2 i4 i5 : Nat) (D : Nat → Bool) (v : Nat → Value) (W : World) : Prop :=
  Go1 p w W ∧ (D i5 = true → D i2 = true ∧ D i4 = true) ∧ if D i5 then ∃ oa n cap xs, v i5 = .slice oa n cap ∧ XsAt (fun b => S0 b ∨ w.heap.size ≤ b) W (x :: xs) oa n cap ∧ PS p W q.2 ∧ (q.2.good = true → xs = q.1)
  else (D i4 = false → PS p W s) ∧ (D i2 = true → ∃ g, v i2 = .slice (some ⟨g, 0, none⟩) 1 1 ∧ w.heap.size ≤ g ∧ W.heap[g]? = some (.cells r.cells 26 (0, 0))) ∧
    (D i4 = true → ∃ oa n cap xs, v i4 = .slice oa n cap ∧ XsAt (fun b => w.heap.size ≤ b ∧ (D i2 = true → (v i2).ownBlock ≠ some b)) W xs oa n cap ∧ PS p W q.2 ∧ n ≤ 1000001 ∧ (oa = none → cap = 0) ∧ (q.2.good = true → xs = q.1))
section
variable {p : Nat} {w : World} {S0 : Nat → Prop} {r : XR} {x : Ex} {q : List Ex × Ps} {s : Ps} {i2 i4 i5 : Nat} {D : Nat → Bool} {v : Nat → Value} {W : World}
theorem LsS.go (h : LsS p w S0 r x q s i2 i4 i5 D v W) : Go1 p w W := h.1
theorem LsS.start (hps : PS p w s) (hG : Gr w W) (v : Nat → Value) : LsS p w S0 r x q s i2 i4 i5 (fun _ => false) v W :=
  ⟨.of hG, fun h => (by cases h), by simp; exact hps.keep hG⟩
theorem LsS.row (h25 : i2 ≠ i5) (h24 : i2 ≠ i4) (h5 : D i5 = false) (h2 : D i2 = false) (h : LsS p w S0 r x q s i2 i4 i5 D v W) :
    LsS p w S0 r x q s i2 i4 i5 (Rg.ins D i2) (Rg.upd v i2 (.slice (some ⟨W.heap.size, 0, none⟩) 1 1)) (W.alloc (.cells r.cells 26)) := by
  obtain ⟨hg, hd, h⟩ := h
  rw [h5] at h
  simp only [Bool.false_eq_true, if_false] at h
  obtain ⟨ha, hb, hc⟩ := h
  have hA := (Gr.refl W).alloc (.cells r.cells 26)
  have e5 : Rg.ins D i2 i5 = false := by simp [Rg.ins, Ne.symm h25, h5]
  have e4 : Rg.ins D i2 i4 = D i4 := by simp [Rg.ins, Ne.symm h24]
  have e2 : Rg.ins D i2 i2 = true := by simp [Rg.ins]
  have v4 : ∀ u, Rg.upd v i2 u i4 = v i4 := fun u => by simp [Rg.upd, Ne.symm h24]
  have v2 : ∀ u, Rg.upd v i2 u i2 = u := fun u => by simp [Rg.upd]
  refine ⟨hg.block2 hA, fun h => absurd h (by rw [e5]; decide), ?_⟩
  rw [e5]
  simp only [Bool.false_eq_true, if_false, e4, e2, v2, v4]
  refine ⟨fun h => (ha h).keep hA, fun _ => ⟨_, rfl, hg.size, alloc_at _ _⟩, fun h => ?_⟩
  obtain ⟨oa, n, cap, xs, k1, k2, k3, k4, k5, k6⟩ := hc h
  refine ⟨oa, n, cap, xs, k1, ?_, k3.keep hA, k4, k5, k6⟩
  refine (k2.mono (fun b hb hs => ⟨hs.1, fun _ e => ?_⟩)).of hA.size (fun b _ hb => hA.block b hb)
  simp [Value.ownBlock] at e
  omega
theorem LsS.call {u : Value} {W' : World} (hpw : p < w.heap.size) (h45 : i4 ≠ i5) (h24 : i2 ≠ i4) (h5 : D i5 = false) (h : LsS p w S0 r x q s i2 i4 i5 D v W) (hR : Rxs p W q u W') :
    LsS p w S0 r x q s i2 i4 i5 (Rg.ins D i4) (Rg.upd v i4 u) W' := by
  obtain ⟨hg, hd, h⟩ := h
  rw [h5] at h
  simp only [Bool.false_eq_true, if_false] at h
  obtain ⟨ha, hb, hc⟩ := h
  obtain ⟨oa, n, cap, xs, rfl, k2, k3, k4, k5, k6, k7⟩ := hR
  have e5 : Rg.ins D i4 i5 = false := by simp [Rg.ins, Ne.symm h45, h5]
  have e4 : Rg.ins D i4 i4 = true := by simp [Rg.ins]
  have e2 : Rg.ins D i4 i2 = D i2 := by simp [Rg.ins, h24]
  have v4 : ∀ u, Rg.upd v i4 u i4 = u := fun u => by simp [Rg.upd]
  have v2 : ∀ u, Rg.upd v i4 u i2 = v i2 := fun u => by simp [Rg.upd, h24]
  refine ⟨hg.trans k4, fun h => absurd h (by rw [e5]; decide), ?_⟩
  rw [e5]
  simp only [Bool.false_eq_true, if_false, e4, e2, v2, v4]
  refine ⟨fun h => absurd h (by decide), fun h => ?_, fun _ => ⟨oa, n, cap, xs, rfl, k2.mono (fun b hl hs => ⟨Nat.le_trans hg.size hs, fun h e => ?_⟩), k3, k5, k6, k7⟩⟩
  · obtain ⟨g, g1, g2, g3⟩ := hb h
    have hgl : g < W.heap.size := (Array.getElem?_eq_some_iff.1 g3).1
    exact ⟨g, g1, g2, by rw [k4.get hgl (by omega)]; exact g3⟩
  · obtain ⟨g, g1, g2, g3⟩ := hb h
    have hgl : g < W.heap.size := (Array.getElem?_eq_some_iff.1 g3).1
    rw [g1] at e
    simp [Value.ownBlock] at e
    have : W.heap.size ≤ b := hs
    omega
theorem LsS.ready (h5 : D i5 = false) (h4 : D i4 = false) (h : LsS p w S0 r x q s i2 i4 i5 D v W) : PS p W s := by
  obtain ⟨hg, hd, h⟩ := h
  rw [h5] at h
  simp only [Bool.false_eq_true, if_false] at h
  exact h.1 h4
theorem info_size {P : Program} {t : TypeId} {z : Value} {a b : Nat} (h : (P.info? t).map (fun i => (i.zero, i.size, i.bytes)) = some (some z, a, b)) : ∃ i, P.info? t = some i ∧ i.zero = some z ∧ i.size = a ∧ i.bytes = b := by
  cases hi : P.info? t with
  | none => rw [hi] at h; cases h
  | some i => rw [hi] at h; simp at h; exact ⟨i, rfl, h.1, h.2.1, h.2.2⟩
theorem LsS.append (hpw : p < w.heap.size) (h25 : i2 ≠ i5) (h45 : i4 ≠ i5) (h5 : D i5 = false) (h4 : D i4 = true) (h2 : D i2 = true) (hx : Ex.At S0 w x r) (hS0 : ∀ b, S0 b → b ≠ p) (ty : TypeId) (h : LsS p w S0 r x q s i2 i4 i5 D v W) :
    ∃ v1 v2 v' W', v i2 = v1 ∧ v i4 = v2 ∧ (Builtin.append_ #[24, 24] ty #[v1, v2]).run Tryz.prog W = .ok v' W' ∧ LsS p w S0 r x q s i2 i4 i5 (Rg.ins D i5) (Rg.upd v i5 v') W' := by
  obtain ⟨hg, hd, h⟩ := h
  rw [h5] at h
  simp only [Bool.false_eq_true, if_false] at h
  obtain ⟨ha, hb, hc⟩ := h
  obtain ⟨g, g1, g2, g3⟩ := hb h2
  obtain ⟨oa, n, cap, xs, k1, k2, k3, k4, k5, k6⟩ := hc h4
  have hgl : g < W.heap.size := (Array.getElem?_eq_some_iff.1 g3).1
  rw [g1] at k2
  obtain ⟨l1, l2, rs, l3, l4, l5⟩ := k2
  obtain ⟨i0, hi0, hz0, hz1, hz2⟩ := info_size x_info
  have hwz := hg.size
  obtain ⟨v', W', hrun, r1, r2, r3⟩ := runs_append (P := Tryz.prog) W 24 ty w.heap.size 26 i0 _ 12 128 Tryz.underlying24 hi0 hz0 hz1 hz2 rfl (by decide) g 1 1 (xF r) (own_blk (w := W) (base := w.heap.size) g3 rfl g2) oa n cap (cellsF xF rs)
    (by rw [xE.cells_len, l3, ← l1]) (fun e => by subst e; have := k5 rfl; have := l2.1; omega) (fun ad had j u hu => by
      rcases l4 with l4 | ⟨b, off, e, hbl, hs, hf, hr⟩
      · subst l4; simp [cellsF] at hu
      · subst e; cases had; exact RowF.cells xE hr j u hu) (xE.cells_one rs) (by unfold maxLen; omega) (by omega) (by omega)
  refine ⟨_, _, v', W', g1, k1, hrun, ?_⟩
  have hz := r2.size
  have keepB : ∀ b, b < W.heap.size → b ≠ g → W'.heap[b]? = W.heap[b]? := fun b hb hne => r2.block b hb (fun e => by simp [Value.ownBlock] at e; exact hne e)
  have hGo : Go1 p w W' := hg.trans' r2 (fun g' e => by simp [Value.ownBlock] at e; omega)
  refine ⟨hGo, fun _ => ⟨by simp [Rg.ins, h2], by simp [Rg.ins, h4]⟩, ?_⟩
  rw [show Rg.ins D i5 i5 = true by simp [Rg.ins]]
  simp only [if_true, upd_same]
  have hlen : (r :: rs).length = 1 + n := by simp [l3, l1]; omega
  have r1' : W'.ownsRow w.heap.size 26 12 v' (r :: rs).length (cellsF xF (r :: rs)) := by rw [hlen]; exact r1
  obtain ⟨oa', cap', rfl, hc', hrow, _⟩ := own_row (S := fun b => S0 b ∨ w.heap.size ≤ b) r1' (fun b hb _ => .inr hb)
  refine ⟨oa', (r :: rs).length, cap', xs, rfl, ⟨by simp [l3], ⟨hc', by show (r :: rs).length ≤ 2000000; rw [hlen]; omega⟩, r :: rs, by simp [l3], hrow, Exs.At.cons ?_ ?_⟩, k3.low hz (fun i hi hl => keepB i hl (by omega)), k6⟩
  · refine (((hx.mono (S' := fun b => S0 b ∧ b < w.heap.size) (fun b hl hs => ⟨hs, hl⟩)).of hwz (fun b hb hl => hg.get hl (hS0 b hb.1))).of hz (fun b hb hl => keepB b hl (by have := hb.2; omega))).mono (fun b _ hb => .inl hb.1)
  · refine (l5.of hz (fun b hb hl => keepB b hl (fun e => ?_))).mono (fun b _ hb => .inr hb.1)
    exact hb.2 h2 (by simp [Value.ownBlock, e])
theorem LsS.n2 (h2 : D i2 = false) (h : LsS p w S0 r x q s i2 i4 i5 D v W) : D i5 = false := by
  cases h5 : D i5 with
  | false => rfl
  | true => have := (h.2.1 h5).1; rw [h2] at this; cases this
theorem LsS.n4 (h4 : D i4 = false) (h : LsS p w S0 r x q s i2 i4 i5 D v W) : D i5 = false := by
  cases h5 : D i5 with
  | false => rfl
  | true => have := (h.2.1 h5).2; rw [h4] at this; cases this
theorem LsS.fin (h5 : D i5 = true) (h : LsS p w S0 r x q s i2 i4 i5 D v W) : ∃ oa n cap xs, v i5 = .slice oa n cap ∧ XsAt (fun b => S0 b ∨ w.heap.size ≤ b) W (x :: xs) oa n cap ∧ PS p W q.2 ∧ (q.2.good = true → xs = q.1) := by
  obtain ⟨hg, hd, h⟩ := h
  rw [h5] at h
  simpa only [if_true] using h
end
theorem alloc_at' (w : World) (o : Obj) (n : Nat) (h : n = w.heap.size) : (w.alloc o).heap[n]? = some o := by subst h; exact alloc_at w o
end Go.Proofs.YtbeinfhgfflneaaGreat
end
section
namespace Go.Proofs.YtbeinfhgfflneaaGreat
open Go.RowKit
set_option linter.unusedSimpArgs false
set_option linter.unusedVariables false
attribute [local go_sem] Rg.leads_value Rg.leads_skip Rg.leads_enter Rg.brings_value Rg.brings_skip Rg.brings_enter Rg.bringsG_value Rg.bringsG_enter Rg.once_normal Rg.once_exit Rg.once_ret Rg.once_panic Rg.once_goto Rg.bringsS_value Rg.bringsS_skip Rg.bringsS_enter Rg.still_value Rg.still_skip Rg.still_enter
mutual
def Ex.sz : Ex → Nat
  | .mk _ ks => Exs.sz ks + 1
def Exs.sz : List Ex → Nat
  | [] => 0
  | x :: xs => Ex.sz x + Exs.sz xs
end
theorem sz_get : ∀ (xs : List Ex) (k : Nat) (h : k < xs.length), Ex.sz xs[k] ≤ Exs.sz xs
  | [], k, h => by simp at h
  | x :: xs, 0, h => by show Ex.sz x ≤ Exs.sz (x :: xs); unfold Exs.sz; omega
  | x :: xs, k + 1, h => by
    have h' : k < xs.length := by simpa using h
    have := sz_get xs k h'
    show Ex.sz xs[k] ≤ Exs.sz (x :: xs)
    rw [Exs.sz]; omega
set_option maxHeartbeats 4000000 in
set_option maxRecDepth 100000 in
theorem clip_any (oa : Option Addr) (n cap : Nat) (h : n ≤ cap) (w : World) : Calls Tryz.prog 31 #[.slice oa n cap] w fun e w' => e = .returned (.slice oa n n) ∧ w' = w := by
  have g1 : (n : Int) ≤ (cap : Int) := by omega
  go_enter Tryz.func31, Tryz.ntmps31
  go_wp2
  go_ret
  exact ⟨rfl, rfl⟩
theorem st_mid {P : Program} {ops : Array Oper} {rest : List Oper} {o : Oper} {a : Act} {w : World} {Q : Exit → Act → World → Prop} {ty : TypeId} {x y : Operand} {S : Nat → Prop} (ho : o.op = .store ty x y) (hgd : o.guard = none)
    (b off : Nat) (cells : Array Value) (hx : a.eval x = .pointer (some ⟨b, off, none⟩)) (hy : a.eval y = .agg cells)
    (hsame : ∀ j u', cells.toList[j]? = some u' → ∃ u, w.cell? ⟨b, off + j, none⟩ = some u ∧ SameV u u') (hfr : ∀ j, w.frozen? ⟨b, j, none⟩ = false) (hS : S b)
    (hi : (P.info? ty).map (·.size) = some cells.size) (h1 : cells.all (·.oneCell') = true)
    (hK : ∀ W, Cl S w W → wpList P ops Q rest (a.put o.dst undef) W) : wpList P ops Q (o :: rest) a w :=
  wpList_store_mid hgd ty x y ho b off cells hx hy (fun j hj => ⟨by
    obtain ⟨u, hu, _⟩ := hsame j cells[j] (by simp [hj])
    rw [hu]; rfl, hfr _⟩) hi h1 (hK _ (Cl.cellsv hS _ _ _ hsame))
def RC (S : Nat → Prop) (rk : XR) (W0 : World) (u : Value) (W : World) : Prop := u = XR.val { rk with cap := rk.n } ∧ Cl S W0 W
theorem late_cl {S : Nat → Prop} {idx s : Nat} {w W : World} {rk : XR} {v : Nat → Value} (h : Late idx w (RC S rk) s v W) : Cl S w W := by
  unfold Late at h
  split at h
  · exact .of h
  · obtain ⟨W0, h1, _, h2⟩ := h; exact (Cl.of h1).trans h2
theorem same_row {S : Nat → Prop} {w W : World} {b o : Nat} {rk : XR} (hc : ∀ j u, (xF rk)[j]? = some u → w.cell? ⟨b, o + j, none⟩ = some u) (h : Cl S w W) : ∀ j u', (xF { rk with cap := rk.n })[j]? = some u' → ∃ u, W.cell? ⟨b, o + j, none⟩ = some u ∧ SameV u u' := by
  intro j u' hu'
  have hj : j < 12 := by have := (List.getElem?_eq_some_iff.1 hu').1; simpa [xF] using this
  by_cases e : j = 11
  · subst e
    simp [xF] at hu'
    subst hu'
    obtain ⟨u2, h1, h2⟩ := h.cell _ _ _ (hc 11 _ rfl)
    rcases h2 with e | ⟨oa, n, c, c', e1, e2, e3⟩
    · exact ⟨u2, h1, by rw [← e]; exact .inr ⟨_, _, _, _, rfl, rfl, Nat.le_refl _⟩⟩
    · cases e1
      exact ⟨u2, h1, by rw [e2]; exact .inr ⟨_, _, _, _, rfl, rfl, Nat.le_refl _⟩⟩
  · have hu : (xF rk)[j]? = some u' := by
      rcases j with _ | _ | _ | _ | _ | _ | _ | _ | _ | _ | _ | _ | j <;> first | exact hu' | (exfalso; omega)
    obtain ⟨u2, h1, h2⟩ := h.cell _ _ _ (hc j u' hu)
    rcases h2 with e' | ⟨oa, n, c, c', e1, e2, e3⟩
    · exact ⟨u2, h1, by rw [← e']; exact .refl _⟩
    · exact ⟨u2, h1, by rw [e1, e2]; exact .inr ⟨_, _, _, _, rfl, rfl, by
        exfalso
        rcases j with _ | _ | _ | _ | _ | _ | _ | _ | _ | _ | _ | _ | j <;> simp [xF] at hu <;> first | omega | (subst hu; cases e1)⟩⟩
set_option maxHeartbeats 8000000 in
set_option maxRecDepth 100000 in
theorem clipped_step (x : Ex) (rh : Hd) (roa : Option Addr) (rn rcap : Nat) (S : Nat → Prop) (w : World) (hx : Ex.At S w x ⟨rh, roa, rn, rcap⟩)
    (hrec : ∀ y r' w', Ex.sz y < Ex.sz x → Ex.At (fun b => S b ∧ b < w.heap.size) w' y r' → Calls Tryz.prog 23 #[XR.val r'] w' fun e w2 => e = .returned (XR.val { r' with cap := r'.n }) ∧ Cl (fun b => S b ∧ b < w.heap.size) w' w2) :
    Calls Tryz.prog 23 #[XR.val ⟨rh, roa, rn, rcap⟩] w fun e w' => e = .returned (XR.val ⟨rh, roa, rn, rn⟩) ∧ Cl S w w' := by
  have hx1 : Ex.At (fun b => S b ∧ b < w.heap.size) w x ⟨rh, roa, rn, rcap⟩ := hx.mono (fun b hb hs => ⟨hs, hb⟩)
  have hfit : rn ≤ rcap := hx.fits
  have hbd : rn ≤ 2000000 := hx.bound
  obtain ⟨wA, hwA⟩ : ∃ wA, (w.alloc (.cells (XR.cells ⟨rh, roa, rn, rcap⟩) 26)).alloc (.cells zeroX 26) = wA := ⟨_, rfl⟩
  have hGA : Gr w wA := by rw [← hwA]; exact ((Gr.refl w).alloc _).alloc _
  have hB1 : wA.heap[w.heap.size]? = some (.cells (XR.cells ⟨rh, roa, rn, rcap⟩) 26 (0, 0)) := by rw [← hwA, ((Gr.refl _).alloc _).block _ (by simp)]; exact alloc_at _ _
  have hR0 : wA.heap[w.heap.size + 1]? = some (.cells zeroX 26 (0, 0)) := by rw [← hwA]; exact alloc_at' _ _ _ (World.size_alloc _ _).symm
  have hzA : wA.heap.size = w.heap.size + 2 := by rw [← hwA]; simp
  obtain ⟨ks, hks, hn⟩ : ∃ ks : List Ex, (∀ S w r, Ex.At S w x r → ∃ rs, rs.length = ks.length ∧ XR.n r = ks.length ∧ XRow S w (XR.oa r) rs ∧ Exs.At S w ks rs) ∧ ∀ k (h : k < ks.length), Ex.sz ks[k] < Ex.sz x := by
    cases x with
    | mk hd ks =>
      refine ⟨ks, fun S w r h => ?_, fun k h => ?_⟩
      · unfold Ex.At at h
        obtain ⟨_, a, _, rs, b, c, d⟩ := h
        exact ⟨rs, b, a, c, d⟩
      · have := sz_get ks k h
        rw [Ex.sz]; omega
  have hlen : rn = ks.length := by obtain ⟨rs, _, h, _⟩ := hks _ _ _ hx; exact h
  have HLEN := hid hlen
  clear hlen
  have HX := hid hx1
  have HB := hid hB1
  have HR := hid hR0
  have HW := hid hwA
  clear hx hx1 hB1 hR0 hwA
  unfold XR.val
  go_enter Tryz.func23, Tryz.ntmps23
  go_wp2_with fail
  rw [HW.out]
  go_loopw [8] (fun s8 wr => ∃ k : Nat, s8 = .int .i64 (k : Int) ∧ k ≤ rn ∧ Cl (fun b => S b ∧ b < w.heap.size) wA wr) (fun s8 _ => rn - (intOf s8).toNat)
  · exact ⟨0, rfl, by omega, .refl _ _⟩
  · obtain ⟨k, rfl, hk, hcl⟩ := hrel
    have hzr := hcl.size
    have hB1 : wr.heap[w.heap.size]? = some (.cells (XR.cells ⟨rh, roa, rn, rcap⟩) 26 (0, 0)) := (hcl.block _ (by omega) (fun h => by omega)).trans HB.out
    have hR0 : wr.heap[w.heap.size + 1]? = some (.cells zeroX 26 (0, 0)) := (hcl.block _ (by omega) (fun h => by omega)).trans HR.out
    have HXr := hid ((HX.out.of hGA.size (fun b _ hb => hGA.block b hb)).clS hcl)
    by_cases hkn : k < rn
    · have t0 : decide ((k : Int) < (rn : Int)) = true := by rw [decide_eq_true_iff]; omega
      have g1 : (k : Int) < (rn : Int) := by omega
      have hwk : wrap64 ((k : Int) + 1) = (k : Int) + 1 := by unfold wrap64; omega
      obtain ⟨rs, hl1, hl20, hrow, hats⟩ := hks _ _ _ HXr.out
      have hl2 : rn = ks.length := hl20
      clear hl20
      have hkl : k < rs.length := by rw [hl1, ← hl2]; exact hkn
      have hkk : k < ks.length := by rw [← hl2]; exact hkn
      have hat := hats.get k hkk hkl
      rcases hrow with h0 | ⟨b, off, hoa, hbl, hSb, hfr, hr⟩
      · rw [h0] at hkl; simp at hkl
      have hoa' : roa = some ⟨b, off, none⟩ := hoa
      clear hoa
      subst hoa'
      have hrk := hr k hkl
      obtain ⟨rk, hrk0⟩ : ∃ rk, rs[k] = rk := ⟨_, rfl⟩
      rw [hrk0] at hat hrk
      have HRK := hid hrk
      have k0 := hrk 0 _ rfl
      have k1 := hrk 1 _ rfl
      have k2 := hrk 2 _ rfl
      have k3 := hrk 3 _ rfl
      have k4 := hrk 4 _ rfl
      have k5 := hrk 5 _ rfl
      have k6 := hrk 6 _ rfl
      have k7 := hrk 7 _ rfl
      have k8 := hrk 8 _ rfl
      have k9 := hrk 9 _ rfl
      have k10 := hrk 10 _ rfl
      have k11 := hrk 11 _ rfl
      simp only [Nat.add_zero] at k0
      have HAT := hid hat
      have HFR := hid hfr
      have HREC : Hid (∀ w', Ex.At (fun b => S b ∧ b < w.heap.size) w' (ks[k]'hkk) rk → _) := hid (fun w' => hrec (ks[k]'hkk) rk w' (hn k hkk))
      have hbA : b < w.heap.size := hSb.2
      have cB := Rg.blk_cells hB1
      simp only [XR.cells] at cB
      have HCL := hid hcl
      clear hrk hat hats hr hks hrec hn hB1 hR0 hcl hfr HXr hl1 hl2 hrk0 hkl
      go_wp2_with fail
      have hA4 := (Gr.refl wr).alloc (.cells rk.cells 26)
      refine Rg.region_chain 5 [4] [] (Late 4 (wr.alloc (.cells rk.cells 26)) (RC (fun b => S b ∧ b < w.heap.size) rk)) [some (.pointer (some ⟨w.heap.size, 11, none⟩)), some (.slice (some ⟨b, off, none⟩) rn rcap), some (.int .i64 (k : Int)), some (.agg #[.int .i64 rk.h.op, .int .i64 rk.h.v.t, .int .i64 rk.h.v.n, .string rk.h.v.s, .bool rk.h.v.b, .string rk.h.tab, .string rk.h.name, .int .i64 rk.h.t, .int .i64 rk.h.c, .bool rk.h.nt, .bool rk.h.st, .slice rk.oa rk.n rk.cap]), none]
        (fun v => late0 ((Gr.refl _).drew)) (by kernel_rfl) (by kernel_rfl) (by kernel_rfl) (by kernel_rfl) (fun _ _ d _ _ h => by cases d <;> exact h) ?_
      intro OPS _ v
      simp only [List.take_succ_cons, List.take_zero, Rg.wpC, Rg.wpS, Option.getD_some, Option.getD_none, Act.put, List.setIfInBounds_toArray, List.set_cons_zero, List.set_cons_succ, show List.contains [4] 0 = false from rfl, show List.contains [4] 1 = false from rfl, show List.contains [4] 2 = false from rfl, show List.contains [4] 3 = false from rfl, show List.contains [4] 4 = true from rfl, Bool.false_eq_true, if_false, if_true, Nat.reduceAdd]
      have hBl : w.heap.size < wr.heap.size := by omega
      have fB : ∀ W, Cl (fun b => S b ∧ b < w.heap.size) (wr.alloc (.cells rk.cells 26)) W → W.cell? ⟨w.heap.size, 11, none⟩ = some (.slice (some ⟨b, off, none⟩) rn rcap) ∧ ∀ i, W.cell? ⟨wr.heap.size, i, none⟩ = (rk.cells)[i]? := fun W h => by
        refine ⟨?_, fun i => ?_⟩
        · rw [World.cell?_of_block (w := wr.alloc (.cells rk.cells 26)) (h.block _ (by simp; omega) (fun h => Nat.lt_irrefl _ h.2)), World.cell?_of_block (w := wr) (hA4.block _ hBl), cB]
          rfl
        · rw [World.cell?_of_block (w := wr.alloc (.cells rk.cells 26)) (h.block _ (by simp) (fun h => by have : wr.heap.size < w.heap.size := h.2; omega)), Rg.blk_cells (alloc_at _ _)]
      refine ⟨?_, ?_, ?_, ?_, ?_, ?_⟩
      · refine sc_still (by rfl) (by rfl) (fun s' W _ hS => ?_)
        go_simp
      · refine sc_still (by rfl) (by rfl) (fun s' W _ hS => ?_)
        obtain ⟨cW, _⟩ := fB W (late_cl hS)
        go_simp
      · refine sc_still (by rfl) (by rfl) (fun s' W _ hS => ?_)
        go_simp
      · refine sc_still (by rfl) (by rfl) (fun s' W _ hS => ?_)
        obtain ⟨_, cW⟩ := fB W (late_cl hS)
        simp only [XR.cells] at cW
        go_simp
      · refine sc_new (by rfl) (by rfl) (fun W hS => ?_)
        have hg := late_0 hS
        have hH := HREC.out W ((HAT.out.of hA4.size (fun b _ hb => hA4.block b hb)).of hg.size (fun b _ hb => hg.block b hb))
        unfold XR.val at hH
        go_simp
        refine hH.mono ?_
        rintro e w' ⟨rfl, hu⟩
        exact ⟨_, rfl, late1 ⟨W, hg, by rw [upd_same]; exact ⟨rfl, hu⟩⟩⟩
      · intro W hS
        have hclW := late_cl hS
        obtain ⟨W0, hg0, hu, _⟩ := late_1 hS
        generalize v 4 = vv at *
        subst hu
        simp only [List.drop_succ_cons, List.drop_zero]
        have hclA := (Cl.of (S := fun b => S b ∧ b < w.heap.size) hA4).trans hclW
        have HSR := hid (same_row (b := b) (o := off + k * 12) (fun j u hu => HRK.out j u hu) hclA)
        have HFW := hid (fun j => (hclA.free b j (by omega)).trans (HFR.out j))
        have HFIN := hid (fun W5 (h : Cl (fun b => S b ∧ b < w.heap.size) W W5) => (HCL.out.trans hclA).trans h)
        clear hclW hS hg0 hclA fB HREC HAT hA4 HFR HRK HCL
        unfold XR.val
        go_wp2_with (guard_target =~ wpList _ _ _ (Oper.mk _ (Op.store 26 _ _) _ _ _ _ :: _) _ _; refine st_mid (S := fun b => S b ∧ b < w.heap.size) (ty := 26) rfl rfl b (off + k * 12) _ rfl rfl (HSR.out) HFW.out hSb (by kernel_rfl) (by kernel_rfl) ?_; intro W5 hW5; have HC5 := hid (HFIN.out W5 hW5))
        exact ⟨⟨k + 1, by go_num, by omega, HC5.out⟩, by simp [intOf]; omega⟩
    · have t0 : decide ((k : Int) < (rn : Int)) = false := by rw [decide_eq_false_iff_not]; omega
      have cB := Rg.blk_cells hB1
      have b0 : wr.cell? ⟨w.heap.size, 0, none⟩ = some (.int .i64 rh.op) := cB 0
      have b1 : wr.cell? ⟨w.heap.size, 1, none⟩ = some (.int .i64 rh.v.t) := cB 1
      have b2 : wr.cell? ⟨w.heap.size, 2, none⟩ = some (.int .i64 rh.v.n) := cB 2
      have b3 : wr.cell? ⟨w.heap.size, 3, none⟩ = some (.string rh.v.s) := cB 3
      have b4 : wr.cell? ⟨w.heap.size, 4, none⟩ = some (.bool rh.v.b) := cB 4
      have b5 : wr.cell? ⟨w.heap.size, 5, none⟩ = some (.string rh.tab) := cB 5
      have b6 : wr.cell? ⟨w.heap.size, 6, none⟩ = some (.string rh.name) := cB 6
      have b7 : wr.cell? ⟨w.heap.size, 7, none⟩ = some (.int .i64 rh.t) := cB 7
      have b8 : wr.cell? ⟨w.heap.size, 8, none⟩ = some (.int .i64 rh.c) := cB 8
      have b9 : wr.cell? ⟨w.heap.size, 9, none⟩ = some (.bool rh.nt) := cB 9
      have b10 : wr.cell? ⟨w.heap.size, 10, none⟩ = some (.bool rh.st) := cB 10
      have b11 : wr.cell? ⟨w.heap.size, 11, none⟩ = some (.slice roa rn rcap) := cB 11
      have f0 := Rg.blk_free hB1
      have H05 : Hid (∀ u, (wr.setCell ⟨w.heap.size, 11, none⟩ u).heap[w.heap.size + 1]? = some (.cells zeroX 26 (0, 0))) := hid (fun u => by rw [Below.heap_setCell _ _ _ _ (by simp)]; exact hR0)
      have FI : Hid (∀ u W5, Go1 (w.heap.size + 1) (wr.setCell ⟨w.heap.size, 11, none⟩ u) W5 → Cl S w W5) := hid (fun u W5 h5 => by
        have h1 : Cl S w wr := ((Cl.of hGA).trans hcl).mono (fun b _ hs => hs.1) |> fun h => h
        refine h1.new h5.os h5.tape h5.output (by have := h5.size; simpa using this) (fun b hb => ?_)
        rw [h5.get (by simp; omega) (by omega), Below.heap_setCell _ _ _ _ (by simp; omega)])
      clear hcl HXr hks hn hrec hB1 hR0 HX HB HR HW HLEN cB
      go_wp2_with (first | (go_at_call 31; refine (clip_any roa rn rcap hfit _).mono ?_; rintro e w' ⟨rfl, rfl⟩) | (guard_target =~ wpList _ _ _ (Oper.mk _ (Op.store 26 _ _) _ _ _ _ :: _) _ _; refine st_row (ty := 26) rfl rfl (w.heap.size + 1) _ rfl rfl 26 _ (H05.out _) (by kernel_rfl) rfl (by kernel_rfl) ?_; intro W5 hW5 gW5 zW5))
      (try change bodyPost _ _ _ _ _ _)
      have hT := Rg.blk_cells hW5
      refine bodyPost_ret (v := XR.val ⟨rh, roa, rn, rn⟩) (by simp [results, Tryz.results23, go_sem, XR.val, nul, hT]; try rfl) rfl ⟨rfl, FI.out _ W5 gW5⟩
theorem clipped_any : ∀ (N : Nat) (x : Ex), Ex.sz x ≤ N → ∀ (r : XR) (S : Nat → Prop) (w : World), Ex.At S w x r → Calls Tryz.prog 23 #[XR.val r] w fun e w' => e = .returned (XR.val { r with cap := r.n }) ∧ Cl S w w'
  | 0, x, h, r, S, w, hx => by cases x; rw [Ex.sz] at h; omega
  | N + 1, x, h, r, S, w, hx => clipped_step x r.h r.oa r.n r.cap S w hx (fun y r' w' hy hat => clipped_any N y (by omega) r' _ w' hat)
end Go.Proofs.YtbeinfhgfflneaaGreat
end
section
namespace Go.Proofs.YtbeinfhgfflneaaGreat
open Go.RowKit
set_option linter.unusedSimpArgs false
set_option linter.unusedVariables false
attribute [local go_sem] Rg.leads_value Rg.leads_skip Rg.leads_enter Rg.brings_value Rg.brings_skip Rg.brings_enter Rg.bringsG_value Rg.bringsG_enter Rg.once_normal Rg.once_exit Rg.once_ret Rg.once_panic Rg.once_goto
def KX (s : Sv) (aggs inn : Bool) (w : World) (oa : Option Addr) (n : Nat) (rs : List (Ex × Int × Int)) : Prop := n = rs.length ∧ n ≤ 1000000 ∧ ∀ k (h : k < rs.length), ∃ b off rk, oa = some ⟨b, off, none⟩ ∧ b < w.heap.size ∧ (∀ i u, (xF rk)[i]? = some u → w.cell? ⟨b, off + k * 12 + i, none⟩ = some u) ∧ ∀ W, Gr w W → Calls Tryz.prog 24 #[s.val aggs inn, XR.val rk] W (Xp rs[k] W)
structure ExRel (rs : List (Ex × Int × Int)) (W1 : World) (s8 s9 s29 : Value) (wr : World) : Prop where
  ex : ∃ k : Nat, s29 = .int .i64 (k : Int) ∧ k ≤ rs.length ∧ Gr W1 wr ∧ KL kX (fun b => W1.heap.size ≤ b ∧ s9.ownBlock ≠ some b) wr s8 ((rs.map (·.1)).take k) ∧ KL kI (fun b => W1.heap.size ≤ b ∧ s8.ownBlock ≠ some b) wr s9 ((rs.map (·.2.1)).take k) ∧ ∀ r ∈ rs.take k, r.2.2 = 0
theorem find_bad : ∀ (rs : List (Ex × Int × Int)) (k : Nat) (hk : k < rs.length), (∀ r ∈ rs.take k, r.2.2 = 0) → rs[k].2.2 ≠ 0 → rs.find? (fun r => r.2.2 != 0) = some rs[k]
  | r :: rs, 0, _, _, h => by rw [List.find?_cons_of_pos (by simpa using h)]; rfl
  | r :: rs, k + 1, hk, hz, h => by
    have h0 : r.2.2 = 0 := hz r (by simp)
    rw [List.find?_cons_of_neg (by simp [h0])]
    exact find_bad rs k (by simpa using hk) (fun x hx => hz x (by simp [hx])) h
theorem bindH_bad (fr : List Tn) (aggs in_ : Bool) (h : Hd) (rs : List (Ex × Int × Int)) (k : Nat) (hk : k < rs.length) (hz : ∀ r ∈ rs.take k, r.2.2 = 0) (e : rs[k].2.2 ≠ 0) : bindH fr aggs in_ h rs = (noE, 0, rs[k].2.2) := by
  unfold bindH
  rw [find_bad rs k hk hz e]
theorem bindH_ok (fr : List Tn) (aggs in_ : Bool) (h : Hd) (rs : List (Ex × Int × Int)) (hz : ∀ r ∈ rs, r.2.2 = 0) : bindH fr aggs in_ h rs = if h.op == 2 && rs.length == 0 then bnameK fr h else if (kindK aggs in_ h (rs.map (·.2.1))).2 != 0 then (noE, 0, (kindK aggs in_ h (rs.map (·.2.1))).2) else (.mk h (rs.map (·.1)), (kindK aggs in_ h (rs.map (·.2.1))).1, 0) := by
  have : rs.find? (fun r => r.2.2 != 0) = none := List.find?_eq_none.2 (fun r hr => by simp [hz r hr])
  unfold bindH
  rw [this]
theorem take_snoc {α : Type} (l : List α) (k : Nat) (h : k < l.length) : l.take (k + 1) = l.take k ++ [l[k]] := by rw [List.take_add_one, List.getElem?_eq_getElem h]; rfl
theorem exrel_next {rs : List (Ex × Int × Int)} {W1 w' : World} {v1 v2 : Value} {k : Nat} {y : Ex} {n : Int} (hk : k < rs.length) (hq : rs[k] = (y, n, 0)) (hg : Gr W1 w') (h1 : KL kX (fun b => W1.heap.size ≤ b ∧ v2.ownBlock ≠ some b) w' v1 ((rs.map (·.1)).take k ++ [y])) (h2 : KL kI (fun b => W1.heap.size ≤ b ∧ v1.ownBlock ≠ some b) w' v2 ((rs.map (·.2.1)).take k ++ [n])) (hz : ∀ r ∈ rs.take k, r.2.2 = 0) : ExRel rs W1 v1 v2 (.int .i64 ((k : Int) + 1)) w' := by
  refine ⟨k + 1, by simp, hk, hg, ?_, ?_, ?_⟩
  · rw [take_snoc _ k (by simpa using hk), List.getElem_map, hq]; exact h1
  · rw [take_snoc _ k (by simpa using hk), List.getElem_map, hq]; exact h2
  · rw [take_snoc rs k hk]
    intro r hr
    rcases List.mem_append.1 hr with hr | hr
    · exact hz r hr
    · simp at hr; rw [hr, hq]
theorem mk_at {S : Nat → Prop} {w : World} {xs : List Ex} {s : Slc} (h : Hd) (hx : KsAt kX S w xs s) : Ex.At S w (.mk h xs) ⟨h, s.oa, s.n, s.n⟩ := by
  obtain ⟨h1, h2, rs, h3, h4, h5⟩ := ks_x.2 hx
  exact Ex.At.list.2 ⟨rfl, h1, ⟨Nat.le_refl _, h2.2⟩, rs, h3, h4, h5⟩
theorem push_ok {W1 wr W5 w3 W6 : World} {u8 u9 : Value} {ys : List Ex} {zs : List Int} {y : Ex} {r : XR} (hA : W1.heap.size ≤ wr.heap.size) (hl1 : KL kX (fun b => W1.heap.size ≤ b ∧ u9.ownBlock ≠ some b) wr u8 ys) (hl2 : KL kI (fun b => W1.heap.size ≤ b ∧ u8.ownBlock ≠ some b) wr u9 zs) (hg5 : Gr wr W5) (hx : Ex.At (Nw W5) w3 y r) (hg3 : Gr W5 w3) (hg6 : Gr w3 W6) :
    (∀ b, W6.heap.size ≤ b → W1.heap.size ≤ b ∧ u9.ownBlock ≠ some b) ∧ Ex.At (fun b => (W1.heap.size ≤ b ∧ u9.ownBlock ≠ some b) ∧ u8.ownBlock ≠ some b) W6 y r := by
  have h5 := hg5.size
  have h3 := hg3.size
  have h6 := hg6.size
  have k8 : ∀ b, wr.heap.size ≤ b → u8.ownBlock ≠ some b := fun b hb e => by have := (hl1.blk e).2; omega
  have k9 : ∀ b, wr.heap.size ≤ b → u9.ownBlock ≠ some b := fun b hb e => by have := (hl2.blk e).2; omega
  refine ⟨fun b hb => ⟨by omega, k9 b (by omega)⟩, (hx.mono (fun b _ hb => ?_)).of hg6.size (fun b _ hb => hg6.block b hb)⟩
  have hb : W5.heap.size ≤ b := hb
  exact ⟨⟨by omega, k9 b (by omega)⟩, k8 b (by omega)⟩
theorem exrel_step {rs : List (Ex × Int × Int)} {W1 wr W6 w7 w8 : World} {u8 u9 v8 v9 : Value} {k : Nat} {y : Ex} {kd : Int} {c1 c2 : Obj} (hk : k < rs.length) (hq : rs[k] = (y, kd, 0)) (hg : Gr W1 wr) (hl1 : KL kX (fun b => W1.heap.size ≤ b ∧ u9.ownBlock ≠ some b) wr u8 ((rs.map (·.1)).take k)) (hl2 : KL kI (fun b => W1.heap.size ≤ b ∧ u8.ownBlock ≠ some b) wr u9 ((rs.map (·.2.1)).take k)) (hz : ∀ r ∈ rs.take k, r.2.2 = 0) (h6 : Gr wr W6)
    (h7 : KL kX (fun b => W1.heap.size ≤ b ∧ u9.ownBlock ≠ some b) w7 v8 ((rs.map (·.1)).take k ++ [y])) (hz7 : Gz u8 (W6.alloc c1) w7) (h8 : KL kI (fun b => W1.heap.size ≤ b ∧ v8.ownBlock ≠ some b) w8 v9 ((rs.map (·.2.1)).take k ++ [kd])) (hz8 : Gz u9 (w7.alloc c2) w8) (hm8 : Moved u9 (w7.alloc c2) v9) : ExRel rs W1 v8 v9 (.int .i64 ((k : Int) + 1)) w8 := by
  have g7 : Gr W1 w7 := ((hg.trans h6).alloc _).grown hz7 (fun g e => (hl1.blk e).1.1)
  have g8 : Gr W1 w8 := (g7.alloc _).grown hz8 (fun g e => (hl2.blk e).1.1)
  exact exrel_next hk hq g8 ((h7.gr kX_ok ((Gr.refl _).alloc _)).side kX_ok hz8 hm8) h8 hz
theorem int_side {W1 wr W6 w7 : World} {u8 u9 v8 : Value} {zs : List Int} {c1 : Obj} (c2 : Obj) (hl2 : KL kI (fun b => W1.heap.size ≤ b ∧ u8.ownBlock ≠ some b) wr u9 zs) (h6 : Gr wr W6) (hz7 : Gz u8 (W6.alloc c1) w7) (hm7 : Moved u8 (W6.alloc c1) v8) : KL kI (fun b => W1.heap.size ≤ b ∧ v8.ownBlock ≠ some b) (w7.alloc c2) u9 zs :=
  ((hl2.gr kI_ok (h6.alloc _)).side kI_ok hz7 hm7).gr kI_ok ((Gr.refl _).alloc _)
theorem int_new {W1 w7 : World} {v8 : Value} {ys : List Ex} {S : Nat → Prop} (hA : W1.heap.size ≤ w7.heap.size) (h7 : KL kX S w7 v8 ys) (c2 : Obj) : ∀ b, (w7.alloc c2).heap.size ≤ b → W1.heap.size ≤ b ∧ v8.ownBlock ≠ some b := fun b hb => by
  rw [World.size_alloc] at hb
  exact ⟨by omega, fun e => by have := (h7.blk e).2; omega⟩
theorem es_i {S : Nat → Prop} {w : World} : ∀ {ys rs : List Int}, Es kI S w ys rs → rs = ys
  | [], rs, h => List.eq_nil_of_length_eq_zero h.1
  | y :: ys, [], h => by have := h.1; simp at this
  | y :: ys, r :: rs, h => by
    have h0 : r = y := h.2 0 (by simp) (by simp)
    have hr : Es kI S w ys rs := ⟨by have := h.1; simpa using this, fun k a1 a2 => h.2 (k + 1) (Nat.succ_lt_succ a1) (Nat.succ_lt_succ a2)⟩
    rw [h0, es_i hr]
theorem ints_at {S : Nat → Prop} {w : World} {ys : List Int} {s : Slc} (h : KsAt kI S w ys s) : AtF iF 1 w s.oa ys := by
  obtain ⟨_, _, rs, h3, h4⟩ := h
  have := es_i h3
  subst this
  exact h4.at
set_option maxHeartbeats 32000000 in
set_option maxRecDepth 100000 in
theorem bexpr_form (s : Sv) (aggs in_ inn : Bool) (fr : List Tn) (rh : Hd) (roa : Option Addr) (rn rc : Nat) (w : World) (rs : List (Ex × Int × Int)) (hF : FrAt w s fr) (hin : (in_ || rh.op == 4) = inn) (hK : KX s aggs inn w roa rn rs) :
    Calls Tryz.prog 24 #[s.val aggs in_, XR.val ⟨rh, roa, rn, rc⟩] w (Xp (bindH fr aggs in_ rh rs) w) := by
  obtain ⟨hn, hb, hk⟩ := hK
  subst hn
  have HK := hid hk
  have HQ : Hid (∀ R, bindH fr aggs in_ rh rs = R → ∀ (r : XR) (e : Ending) w', e = .returned (.tuple #[XR.val r, .int .i64 R.2.1, .int .i64 R.2.2]) → Ex.At (Nw w) w' R.1 r → Gr w w' → Xp (bindH fr aggs in_ rh rs) w e w') := hid (fun R hR r e w' h1 h2 h3 => by subst hR; exact ⟨r, h1, h2, h3⟩)
  have HB : Hid (∀ (k : Nat) (h : k < rs.length), (∀ r ∈ rs.take k, r.2.2 = 0) → rs[k].2.2 ≠ 0 → bindH fr aggs in_ rh rs = (noE, 0, rs[k].2.2)) := hid (fun k h => bindH_bad fr aggs in_ rh rs k h)
  have HO : Hid ((∀ r ∈ rs, r.2.2 = 0) → bindH fr aggs in_ rh rs = if rh.op == 2 && rs.length == 0 then bnameK fr rh else if (kindK aggs in_ rh (rs.map (·.2.1))).2 != 0 then (noE, 0, (kindK aggs in_ rh (rs.map (·.2.1))).2) else (.mk rh (rs.map (·.1)), (kindK aggs in_ rh (rs.map (·.2.1))).1, 0)) := hid (bindH_ok fr aggs in_ rh rs)
  have HNM : Hid (∀ W, Gr w W → Calls Tryz.prog 38 #[s.val aggs in_, XR.val ⟨rh, roa, rs.length, rc⟩] W (Xp (bnameK fr rh) W)) := hid (fun W h => bname_any s aggs in_ fr rh roa rs.length rc W (hF.keep h))
  have HKD : Hid (∀ oa c W l, AtF iF 1 W oa l → l.length ≤ 2000000 → Calls Tryz.prog 39 #[s.val aggs in_, XR.val ⟨rh, roa, rs.length, rc⟩, .slice oa l.length c] W (Kp2 (kindK aggs in_ rh l) W)) := hid (fun oa c W l ha hl => bkind_any s aggs in_ rh roa rs.length rc oa c l W ha hl)
  clear hF hk
  generalize bindH fr aggs in_ rh rs = BR at *
  generalize Xp BR w = Q at *
  obtain ⟨op, ⟨vt, vn, vs, vb⟩, tab, name, tt, cc, nt, st⟩ := rh
  obtain ⟨fo, fn, fc, no, nn, nc⟩ := s
  obtain ⟨x4, e4⟩ : ∃ x, (op == 4) = x := ⟨_, rfl⟩
  obtain ⟨W1, hW1⟩ : ∃ W1, (((w.alloc (.cells #[.slice fo fn fc, .slice no nn nc, .bool aggs, .bool in_] 72)).alloc (.cells (XR.cells ⟨⟨op, ⟨vt, vn, vs, vb⟩, tab, name, tt, cc, nt, st⟩, roa, rs.length, rc⟩) 26)).alloc (.cells zeroX 26)).alloc (.cells #[.slice fo fn fc, .slice no nn nc, .bool aggs, .bool inn] 72) = W1 := ⟨_, rfl⟩
  have HW1 := hid hW1
  have HG1 : Hid (Gr w W1) := hid (by rw [← hW1]; exact ((((Gr.refl w).alloc _).alloc _).alloc _).alloc _)
  have HS : Hid (W1.heap[w.heap.size]? = some (.cells #[.slice fo fn fc, .slice no nn nc, .bool aggs, .bool in_] 72 (0, 0))) := hid (by rw [← hW1]; exact ((((Gr.refl _).alloc _).alloc _).alloc _ |>.block _ (by rw [World.size_alloc]; exact Nat.lt_succ_self _)).trans (alloc_at _ _))
  have HE : Hid (W1.heap[w.heap.size + 1]? = some (.cells (XR.cells ⟨⟨op, ⟨vt, vn, vs, vb⟩, tab, name, tt, cc, nt, st⟩, roa, rs.length, rc⟩) 26 (0, 0))) := hid (by rw [← hW1]; exact (((Gr.refl _).alloc _).alloc _ |>.block _ (by simp)).trans (at_2 _ _ _))
  have HZ : Hid (W1.heap[w.heap.size + 1 + 1]? = some (.cells zeroX 26 (0, 0))) := hid (by rw [← hW1]; exact ((Gr.refl _).alloc _ |>.block _ (by simp)).trans (at_3 _ _ _ _))
  have HI : Hid (W1.heap[w.heap.size + 1 + 1 + 1]? = some (.cells #[.slice fo fn fc, .slice no nn nc, .bool aggs, .bool inn] 72 (0, 0))) := hid (by rw [← hW1]; exact at_4 _ _ _ _ _)
  have HSZ : Hid (W1.heap.size = w.heap.size + 4) := hid (by rw [← hW1]; simp)
  clear hW1
  unfold XR.val Sv.val at *
  have e4' : (op == 4) = x4 := e4
  rw [e4'] at hin
  cases in_ with
  | true =>
    obtain rfl : true = inn := hin
    clear e4' e4
    go_enter Tryz.func24, Tryz.ntmps24
    go_wp2_with fail
    rw [HW1.out]
    clear HW1
    go_loopw [8, 9, 29] (fun s8 s9 s29 wr => ExRel rs W1 s8 s9 s29 wr) (fun _ _ s29 _ => rs.length - (intOf s29).toNat)
    · exact ⟨0, rfl, Nat.zero_le _, Gr.refl _, KL.nil, KL.nil, fun r hr => by simp at hr⟩
    · obtain ⟨k, rfl, hk, hg, hl1, hl2, hz⟩ := hrel.ex
      clear hrel
      have HG := hid hg
      have HL1 := hid hl1
      have HL2 := hid hl2
      have HZZ := hid hz
      have HSr : Hid (wr.heap[w.heap.size]? = some (.cells #[.slice fo fn fc, .slice no nn nc, .bool aggs, .bool true] 72 (0, 0))) := hid ((hg.block _ (lt_of_block HS.out)).trans HS.out)
      have HEr : Hid (wr.heap[w.heap.size + 1]? = some (.cells (XR.cells ⟨⟨op, ⟨vt, vn, vs, vb⟩, tab, name, tt, cc, nt, st⟩, roa, rs.length, rc⟩) 26 (0, 0))) := hid ((hg.block _ (lt_of_block HE.out)).trans HE.out)
      have HZr : Hid (wr.heap[w.heap.size + 1 + 1]? = some (.cells zeroX 26 (0, 0))) := hid ((hg.block _ (lt_of_block HZ.out)).trans HZ.out)
      have HIr : Hid (wr.heap[w.heap.size + 1 + 1 + 1]? = some (.cells #[.slice fo fn fc, .slice no nn nc, .bool aggs, .bool true] 72 (0, 0))) := hid ((hg.block _ (lt_of_block HI.out)).trans HI.out)
      clear hl1 hl2 hz
      by_cases hkn : k < rs.length
      · have t0 : decide ((k : Int) < (rs.length : Int)) = true := fi_dec hkn
        have g1 : (k : Int) < (rs.length : Int) := fi_lt hkn
        have HM := hid (in_ms hkn)
        have HWK : Hid _ := hid (fi_wrap hkn (by omega : rs.length ≤ 2000000))
        obtain ⟨b, off, rk, hoa, hbl, hcs, HC⟩ := HK.out k hkn
        have hoa' : roa = some ⟨b, off, none⟩ := hoa
        subst hoa'
        clear hoa
        have hbr : b < wr.heap.size := by have := HG1.out.size; have := hg.size; omega
        obtain ⟨k0, k1, k2, k3, k4, k5, k6, k7, k8, k9, k10, k11⟩ := kid_cells (w := wr) (fun i u hu => hg.keep (HG1.out.keep (hcs i u hu)))
        obtain ⟨⟨y, kd, er⟩, hq⟩ : ∃ q, rs[k] = q := ⟨_, rfl⟩
        have HC : Hid (∀ W, Gr wr W → Calls Tryz.prog 24 #[.agg #[.slice fo fn fc, .slice no nn nc, .bool aggs, .bool true], .agg rk.cells] W (Xp (y, kd, er) W)) := hid (fun W h => by
          have := HC W (HG1.out.trans (hg.trans h))
          rw [hq] at this
          exact this)
        have HQQ := hid hq
        have cI := Rg.blk_cells HIr.out
        have HAL := hid (alloc_at wr (.cells zeroX 26))
        have HGB := hid (fun W5 h => gr_boxE (w1 := wr) (o := .cells zeroX 26) (W := W5) h)
        have HLN : Hid (((rs.map (·.1)).take k).length ≤ 1000001) := hid (by simp; omega)
        have HLN2 : Hid (((rs.map (·.2.1)).take k).length ≤ 1000001) := hid (by simp; omega)
        clear hcs hg hk hq HNM HKD
        unfold Xp at HC
        go_wp2_with (first | (guard_target =~ wpList _ _ _ (Oper.mk _ (Op.store 26 _ _) _ _ _ _ :: _) _ _; refine st_row (ty := 26) rfl rfl wr.heap.size rk.cells rfl rfl 26 _ HAL.out (by kernel_rfl) rfl (by kernel_rfl) ?_; intro W5 hW5 gW5 zW5; have hg5 := HGB.out W5 gW5; have HW5 := hid hW5; have HI5 := hid ((hg5.block _ (lt_of_block HIr.out)).trans HIr.out); clear gW5 zW5 hW5) | (guard_target =~ wpList _ _ _ (Oper.mk _ (Op.load 26 _) _ _ _ _ :: _) _ _; refine wpList_load_row rfl 26 _ rfl wr.heap.size rfl 26 rk.cells (0, 0) _ HW5.out Tryz.underlying26 rfl (by kernel_rfl) ?_) | (guard_target =~ wpList _ _ _ (Oper.mk _ (Op.load 72 _) _ _ _ _ :: _) _ _; refine wpList_load_row rfl 72 _ rfl (w.heap.size + 1 + 1 + 1) rfl 72 #[.slice fo fn fc, .slice no nn nc, .bool aggs, .bool true] (0, 0) _ HI5.out Tryz.underlying72 rfl (by kernel_rfl) ?_))
        refine (HC.out W5 hg5).mono ?_
        rintro e w3 ⟨r, rfl, hx, hg3⟩
        have HG5 := hid hg5
        have HG53 := hid hg3
        have HG3 := hid (hg5.trans hg3)
        have HX : Hid (Ex.At (Nw W5) w3 y r) := hid hx
        have HAV := hid (alloc_at w3 (.cells zeroX 26))
        have HGV := hid (fun W6 h => gr_boxE (w1 := w3) (o := .cells zeroX 26) (W := W6) h)
        clear hx hg3 hg5 HC HAL HGB HW5 HI5 k0 k1 k2 k3 k4 k5 k6 k7 k8 k9 k10 k11 cI
        unfold XR.val
        simp only
        by_cases her : er = 0
        · subst her
          have hXX := HO
          clear HO HB HQ
          go_upto_region 11 with (first | (guard_target =~ wpList _ _ _ (Oper.mk _ (Op.store 26 _ _) _ _ _ _ :: _) _ _; refine st_row (ty := 26) rfl rfl w3.heap.size r.cells rfl rfl 26 _ HAV.out (by kernel_rfl) rfl (by kernel_rfl) ?_; intro W6 hW5 gW5 zW5; have HG6 := hid (HG3.out.trans (HGV.out W6 gW5)); have HG36 := hid (HGV.out W6 gW5); have HW6 := hid hW5; have HZ6 := hid ((HG6.out.block _ (lt_of_block HZr.out)).trans HZr.out); clear gW5 zW5 hW5) | (guard_target =~ wpList _ _ _ (Oper.mk _ (Op.load 26 _) _ _ _ _ :: _) _ _; refine wpList_load_row rfl 26 _ rfl w3.heap.size rfl 26 r.cells (0, 0) _ HW6.out Tryz.underlying26 rfl (by kernel_rfl) ?_))
          go_wp2_with (first | (guard_target =~ wpList _ _ _ (Oper.mk _ (Op.load 26 _) _ _ _ _ :: _) _ _; refine wpList_load_row rfl 26 _ rfl w3.heap.size rfl 26 r.cells (0, 0) _ HW6.out Tryz.underlying26 rfl (by kernel_rfl) ?_) | (at_builtin; refine append_kl kX_ok kt_x _ rfl _ _ rfl u8 rfl (HL1.out.gr kX_ok (HG6.out.alloc _)) HLN.out (push_ok HG.out.size HL1.out HL2.out HG5.out HX.out HG53.out (HG36.out.alloc _)).1 (y := y) (r := r) (push_ok HG.out.size HL1.out HL2.out HG5.out HX.out HG53.out (HG36.out.alloc _)).2 rfl (alloc_at W6 _) rfl ?_) | fail)
          intro v8 w7 hk7 hz7 hm7
          have HK7 := hid hk7
          have HZ7 := hid hz7
          have HM7 := hid hm7
          have HA7 : Hid (W1.heap.size ≤ w7.heap.size) := hid (by have a := hz7.size; rw [World.size_alloc] at a; have := HG6.out.size; have := HG.out.size; omega)
          clear hk7 hz7 hm7
          go_wp2_with (first | (at_builtin; refine append_kl kI_ok kt_i _ rfl _ _ rfl u9 rfl (int_side _ HL2.out HG6.out HZ7.out HM7.out) HLN2.out (int_new HA7.out HK7.out _) (y := kd) (r := kd) rfl rfl (alloc_at w7 _) rfl ?_) | fail)
          intro v9 w8 hk8 hz8 hm8
          have HN := hid (exrel_step hkn HQQ.out HG.out HL1.out HL2.out HZZ.out HG6.out HK7.out HZ7.out hk8 hz8 hm8)
          clear hk8 hz8 hm8 HK7 HZ7 HM7 HA7 HL1 HL2 HZZ HG6 HX HQQ
          go_wp2_with fail
          exact ⟨HN.out, HM.out⟩
        · have q1 : (er != 0) = true := by simpa using her
          have HBE : Hid (BR = (noE, 0, er)) := hid (by have := HB.out k hkn HZZ.out (by rw [HQQ.out]; exact her); rw [HQQ.out] at this; exact this)
          have HFIN : Hid (∀ W6 W9, Gr wr W6 → Go1 (w.heap.size + 1 + 1) W6 W9 → Q (.returned (.tuple #[XR.val ⟨{ op := 0 }, none, 0, 0⟩, .int .i64 0, .int .i64 er])) W9) := hid (fun W6 W9 h6 h9 => HQ.out _ HBE.out ⟨{ op := 0 }, none, 0, 0⟩ _ W9 rfl (leaf_at _) (Go1.up ((HG1.out.trans HG.out).trans h6) h9 (by omega)))
          clear HO HB HQ HL1 HL2 HZZ HBE HX HQQ her
          go_wp2_with (first | (guard_target =~ wpList _ _ _ (Oper.mk _ (Op.store 26 _ _) _ _ _ _ :: _) _ _; refine st_row (ty := 26) rfl rfl w3.heap.size r.cells rfl rfl 26 _ HAV.out (by kernel_rfl) rfl (by kernel_rfl) ?_; intro W6 hW5 gW5 zW5; have HG6 := hid (HG3.out.trans (HGV.out W6 gW5)); have HG36 := hid (HGV.out W6 gW5); have HW6 := hid hW5; have HZ6 := hid ((HG6.out.block _ (lt_of_block HZr.out)).trans HZr.out); clear gW5 zW5 hW5) | (guard_target =~ wpList _ _ _ (Oper.mk _ (Op.load 26 _) _ _ _ _ :: _) _ _; refine wpList_load_row rfl 26 _ rfl w3.heap.size rfl 26 r.cells (0, 0) _ HW6.out Tryz.underlying26 rfl (by kernel_rfl) ?_) | (guard_target =~ wpList _ _ _ (Oper.mk _ (Op.store 26 _ _) _ _ _ _ :: _) _ _; refine st_row (ty := 26) rfl rfl (w.heap.size + 1 + 1) (XR.cells ⟨{ op := 0 }, none, 0, 0⟩) rfl rfl 26 _ HZ6.out (by kernel_rfl) rfl (by kernel_rfl) ?_; intro W9 hW5 gW5 zW5; skip))
          have hT := Rg.blk_cells hW5
          (try change bodyPost _ _ _ _ _ _)
          refine bodyPost_ret (v := .tuple #[XR.val ⟨{ op := 0 }, none, 0, 0⟩, .int .i64 0, .int .i64 er]) (by simp [results, Tryz.results24, go_sem, XR.val, nul, hT]; try rfl) rfl ?_
          exact HFIN.out W6 W9 HG6.out gW5
      · have t0 : decide ((k : Int) < (rs.length : Int)) = false := fi_dec0 hkn
        obtain rfl : k = rs.length := by omega
        have hall : ∀ r ∈ rs, r.2.2 = 0 := by have := HZZ.out; rwa [List.take_length] at this
        have hl1 := HL1.out
        have hl2 := HL2.out
        rw [List.take_of_length_le (by simp)] at hl1 hl2
        obtain ⟨⟨oa1, n1, c1⟩, hu8, hka, _⟩ := hl1.at kX_ok (by simp; omega)
        obtain ⟨⟨oa2, n2, c2⟩, hu9, hkb, _⟩ := hl2.at kI_ok (by simp; omega)
        obtain rfl : n1 = rs.length := by have := hka.1; simpa using this
        obtain rfl : n2 = rs.length := by have := hkb.1; simpa using this
        have hc1 : rs.length ≤ c1 := hka.2.1.1
        have hat := ints_at hkb
        have hka' := hka.mono kX_ok (S' := fun b => W1.heap.size ≤ b) (fun b _ hb => hb.1)
        have HKA := hid hka'
        have HK2 : Hid (Calls Tryz.prog 39 #[.agg #[.slice fo fn fc, .slice no nn nc, .bool aggs, .bool true], .agg (XR.cells ⟨⟨op, ⟨vt, vn, vs, vb⟩, tab, name, tt, cc, nt, st⟩, roa, rs.length, rc⟩), .slice oa2 rs.length c2] wr (Kp2 (kindK aggs true ⟨op, ⟨vt, vn, vs, vb⟩, tab, name, tt, cc, nt, st⟩ (rs.map (·.2.1))) wr)) := hid (by
          have := HKD.out oa2 c2 wr (rs.map (·.2.1)) hat (by simp; omega)
          rw [List.length_map] at this
          exact this)
        have HN2 : Hid (Calls Tryz.prog 38 #[.agg #[.slice fo fn fc, .slice no nn nc, .bool aggs, .bool true], .agg (XR.cells ⟨⟨op, ⟨vt, vn, vs, vb⟩, tab, name, tt, cc, nt, st⟩, roa, rs.length, rc⟩)] wr (Xp (bnameK fr ⟨op, ⟨vt, vn, vs, vb⟩, tab, name, tt, cc, nt, st⟩) wr)) := hid (HNM.out wr (HG1.out.trans hg))
        have HBR := hid (HO.out hall)
        have hu8' : u8 = .slice oa1 rs.length c1 := hu8
        have hu9' : u9 = .slice oa2 rs.length c2 := hu9
        subst hu8' hu9'
        clear hu8 hu9 hka hkb hka' hat hall hl1 hl2 HL1 HL2 HZZ HO HB HK HNM HKD hk
        obtain ⟨x2, j2⟩ : ∃ x, (op == 2) = x := ⟨_, rfl⟩
        obtain ⟨x0, j0⟩ : ∃ x, (rs.length == 0) = x := ⟨_, rfl⟩
        have i0 : ((rs.length : Int) == 0) = x0 := nat_eq _ 0 x0 j0
        rw [j2, j0] at HBR
        have HLT : Hid (w.heap.size + 1 + 1 < wr.heap.size ∧ W1.heap.size ≤ wr.heap.size ∧ w.heap.size + 1 + 1 < W1.heap.size ∧ w.heap.size ≤ wr.heap.size) := hid ⟨lt_of_block HZr.out, hg.size, lt_of_block HZ.out, by have := lt_of_block HZr.out; omega⟩
        have bop : wr.cell? ⟨w.heap.size + 1, 0, none⟩ = some (.int .i64 op) := Rg.blk_cells HEr.out 0
        cases x2 with
        | true =>
          cases x0 with
          | true =>
            have HBR : Hid (BR = bnameK fr ⟨op, ⟨vt, vn, vs, vb⟩, tab, name, tt, cc, nt, st⟩) := hid HBR.out
            obtain ⟨⟨y, kd, er⟩, hN⟩ : ∃ q, bnameK fr ⟨op, ⟨vt, vn, vs, vb⟩, tab, name, tt, cc, nt, st⟩ = q := ⟨_, rfl⟩
            rw [hN] at HBR HN2
            unfold Xp at HN2
            have HFIN : Hid (∀ w4 W9 r, Ex.At (Nw wr) w4 y r → Gr wr w4 → Go1 (w.heap.size + 1 + 1) w4 W9 → Q (.returned (.tuple #[XR.val r, .int .i64 kd, .int .i64 er])) W9) := hid (fun w4 W9 r hx h4 h9 => HQ.out _ HBR.out r _ W9 rfl ((hx.of h9.size (fun b hb hl => h9.get hl (by have := HLT.out.1; have : wr.heap.size ≤ b := hb; omega))).mono (fun b _ hb => by have := HLT.out.2.2.2; have : wr.heap.size ≤ b := hb; show w.heap.size ≤ b; omega)) (Go1.up ((HG1.out.trans HG.out).trans h4) h9 (by omega)))
            clear hN HK2 HKA HBR HQ hg
            go_wp2_with (first | (guard_target =~ wpList _ _ _ (Oper.mk _ (Op.load 72 _) _ _ _ _ :: _) _ _; refine wpList_load_row rfl 72 _ rfl w.heap.size rfl 72 #[.slice fo fn fc, .slice no nn nc, .bool aggs, .bool true] (0, 0) _ HSr.out Tryz.underlying72 rfl (by kernel_rfl) ?_) | (guard_target =~ wpList _ _ _ (Oper.mk _ (Op.load 26 _) _ _ _ _ :: _) _ _; refine wpList_load_row rfl 26 _ rfl (w.heap.size + 1) rfl 26 (XR.cells ⟨⟨op, ⟨vt, vn, vs, vb⟩, tab, name, tt, cc, nt, st⟩, roa, rs.length, rc⟩) (0, 0) _ HEr.out Tryz.underlying26 rfl (by kernel_rfl) ?_))
            refine HN2.out.mono ?_
            rintro e w4 ⟨r, rfl, hx, hg4⟩
            have HZ4 := hid ((hg4.block _ (lt_of_block HZr.out)).trans HZr.out)
            have HX := hid hx
            have HG4 := hid hg4
            clear hx hg4
            unfold XR.val
            go_wp2_with ((guard_target =~ wpList _ _ _ (Oper.mk _ (Op.store 26 _ _) _ _ _ _ :: _) _ _; refine st_row (ty := 26) rfl rfl (w.heap.size + 1 + 1) (XR.cells r) rfl rfl 26 _ HZ4.out (by kernel_rfl) rfl (by kernel_rfl) ?_; intro W9 hW5 gW5 zW5; skip))
            have hT := Rg.blk_cells hW5
            (try change bodyPost _ _ _ _ _ _)
            refine bodyPost_ret (v := .tuple #[XR.val r, .int .i64 kd, .int .i64 er]) (by simp [results, Tryz.results24, go_sem, XR.val, nul, hT]; try rfl) rfl ?_
            exact HFIN.out w4 W9 r HX.out HG4.out gW5
          | false =>
            have HBR : Hid (BR = if (kindK aggs true ⟨op, ⟨vt, vn, vs, vb⟩, tab, name, tt, cc, nt, st⟩ (rs.map (·.2.1))).2 != 0 then (noE, 0, (kindK aggs true ⟨op, ⟨vt, vn, vs, vb⟩, tab, name, tt, cc, nt, st⟩ (rs.map (·.2.1))).2) else (.mk ⟨op, ⟨vt, vn, vs, vb⟩, tab, name, tt, cc, nt, st⟩ (rs.map (·.1)), (kindK aggs true ⟨op, ⟨vt, vn, vs, vb⟩, tab, name, tt, cc, nt, st⟩ (rs.map (·.2.1))).1, 0)) := hid HBR.out
            obtain ⟨⟨kd, er⟩, hN⟩ : ∃ q, kindK aggs true ⟨op, ⟨vt, vn, vs, vb⟩, tab, name, tt, cc, nt, st⟩ (rs.map (·.2.1)) = q := ⟨_, rfl⟩
            rw [hN] at HBR HK2
            unfold Kp2 at HK2
            clear hN HN2 hg
            go_wp2_with (first | (guard_target =~ wpList _ _ _ (Oper.mk _ (Op.load 72 _) _ _ _ _ :: _) _ _; refine wpList_load_row rfl 72 _ rfl w.heap.size rfl 72 #[.slice fo fn fc, .slice no nn nc, .bool aggs, .bool true] (0, 0) _ HSr.out Tryz.underlying72 rfl (by kernel_rfl) ?_) | (guard_target =~ wpList _ _ _ (Oper.mk _ (Op.load 26 _) _ _ _ _ :: _) _ _; refine wpList_load_row rfl 26 _ rfl (w.heap.size + 1) rfl 26 (XR.cells ⟨⟨op, ⟨vt, vn, vs, vb⟩, tab, name, tt, cc, nt, st⟩, roa, rs.length, rc⟩) (0, 0) _ HEr.out Tryz.underlying26 rfl (by kernel_rfl) ?_))
            refine HK2.out.mono ?_
            rintro e w4 ⟨rfl, hg4⟩
            have HZ4 := hid ((hg4.block _ (lt_of_block HZr.out)).trans HZr.out)
            have HG4 := hid hg4
            by_cases her : er = 0
            · subst her
              have HBR : Hid (BR = (.mk ⟨op, ⟨vt, vn, vs, vb⟩, tab, name, tt, cc, nt, st⟩ (rs.map (·.1)), kd, 0)) := hid HBR.out
              have HZS : Hid (∀ u, (w4.setCell ⟨w.heap.size + 1, 11, none⟩ u).heap[w.heap.size + 1 + 1]? = some (.cells zeroX 26 (0, 0))) := hid (fun u => by rw [Below.heap_setCell _ _ _ _ (by simp)]; exact HZ4.out)
              have HFIN : Hid (∀ u W9, Go1 (w.heap.size + 1 + 1) (w4.setCell ⟨w.heap.size + 1, 11, none⟩ u) W9 → Q (.returned (.tuple #[XR.val ⟨⟨op, ⟨vt, vn, vs, vb⟩, tab, name, tt, cc, nt, st⟩, oa1, rs.length, rs.length⟩, .int .i64 kd, .int .i64 0])) W9) := hid (fun u W9 h9 => by
                have hz9 := h9.size
                simp only [World.size_setCell] at hz9
                have hlt := HLT.out
                refine HQ.out _ HBR.out ⟨⟨op, ⟨vt, vn, vs, vb⟩, tab, name, tt, cc, nt, st⟩, oa1, rs.length, rs.length⟩ _ W9 rfl ((mk_at _ (HKA.out.of kX_ok (by have := HG4.out.size; omega) (fun b hb hl => ?_))).mono (fun b _ hb => ?_)) ?_
                · have hb : W1.heap.size ≤ b := hb
                  rw [h9.get (by simp only [World.size_setCell]; have := HG4.out.size; omega) (by omega), Below.heap_setCell _ _ _ _ (by simp; omega), HG4.out.block _ hl]
                · have hb : W1.heap.size ≤ b := hb
                  show w.heap.size ≤ b; omega
                · exact Go1.up (Go1.up ((HG1.out.trans HG.out).trans HG4.out) (Go1.set (w.heap.size + 1) 11 w4 u) (by omega)) h9 (by omega))
              have cE := Rg.blk_cells ((hg4.block _ (lt_of_block HEr.out)).trans HEr.out)
              have fE := Rg.blk_free ((hg4.block _ (lt_of_block HEr.out)).trans HEr.out)
              have b0 : w4.cell? ⟨w.heap.size + 1, 0, none⟩ = some (.int .i64 op) := cE 0
              have b1 : w4.cell? ⟨w.heap.size + 1, 1, none⟩ = some (.int .i64 vt) := cE 1
              have b2 : w4.cell? ⟨w.heap.size + 1, 2, none⟩ = some (.int .i64 vn) := cE 2
              have b3 : w4.cell? ⟨w.heap.size + 1, 3, none⟩ = some (.string vs) := cE 3
              have b4 : w4.cell? ⟨w.heap.size + 1, 4, none⟩ = some (.bool vb) := cE 4
              have b5 : w4.cell? ⟨w.heap.size + 1, 5, none⟩ = some (.string tab) := cE 5
              have b6 : w4.cell? ⟨w.heap.size + 1, 6, none⟩ = some (.string name) := cE 6
              have b7 : w4.cell? ⟨w.heap.size + 1, 7, none⟩ = some (.int .i64 tt) := cE 7
              have b8 : w4.cell? ⟨w.heap.size + 1, 8, none⟩ = some (.int .i64 cc) := cE 8
              have b9 : w4.cell? ⟨w.heap.size + 1, 9, none⟩ = some (.bool nt) := cE 9
              have b10 : w4.cell? ⟨w.heap.size + 1, 10, none⟩ = some (.bool st) := cE 10
              have b11 : w4.cell? ⟨w.heap.size + 1, 11, none⟩ = some (.slice roa rs.length rc) := cE 11
              clear HBR HQ hg4 cE HKA HK2
              go_wp2_with (first | (go_at_call 31; refine (clip_any oa1 rs.length c1 hc1 _).mono ?_; rintro e w' ⟨rfl, rfl⟩) | (guard_target =~ wpList _ _ _ (Oper.mk _ (Op.store 26 _ _) _ _ _ _ :: _) _ _; refine st_row (ty := 26) rfl rfl (w.heap.size + 1 + 1) _ rfl rfl 26 _ (HZS.out _) (by kernel_rfl) rfl (by kernel_rfl) ?_; intro W9 hW5 gW5 zW5; skip))
              have hT := Rg.blk_cells hW5
              (try change bodyPost _ _ _ _ _ _)
              refine bodyPost_ret (v := .tuple #[XR.val ⟨⟨op, ⟨vt, vn, vs, vb⟩, tab, name, tt, cc, nt, st⟩, oa1, rs.length, rs.length⟩, .int .i64 kd, .int .i64 0]) (by simp [results, Tryz.results24, go_sem, XR.val, nul, hT]; try rfl) rfl ?_
              exact HFIN.out _ W9 gW5
            · have q1 : (er != 0) = true := by simpa using her
              have HBR : Hid (BR = (noE, 0, er)) := hid (by rw [HBR.out]; exact if_pos q1)
              have HFIN : Hid (∀ W9, Go1 (w.heap.size + 1 + 1) w4 W9 → Q (.returned (.tuple #[XR.val ⟨{ op := 0 }, none, 0, 0⟩, .int .i64 0, .int .i64 er])) W9) := hid (fun W9 h9 => HQ.out _ HBR.out ⟨{ op := 0 }, none, 0, 0⟩ _ W9 rfl (leaf_at _) (Go1.up ((HG1.out.trans HG.out).trans HG4.out) h9 (by omega)))
              clear HBR HQ hg4 her HKA HK2
              go_wp2_with ((guard_target =~ wpList _ _ _ (Oper.mk _ (Op.store 26 _ _) _ _ _ _ :: _) _ _; refine st_row (ty := 26) rfl rfl (w.heap.size + 1 + 1) (XR.cells ⟨{ op := 0 }, none, 0, 0⟩) rfl rfl 26 _ HZ4.out (by kernel_rfl) rfl (by kernel_rfl) ?_; intro W9 hW5 gW5 zW5; skip))
              have hT := Rg.blk_cells hW5
              (try change bodyPost _ _ _ _ _ _)
              refine bodyPost_ret (v := .tuple #[XR.val ⟨{ op := 0 }, none, 0, 0⟩, .int .i64 0, .int .i64 er]) (by simp [results, Tryz.results24, go_sem, XR.val, nul, hT]; try rfl) rfl ?_
              exact HFIN.out W9 gW5
        | false =>
          have HBR : Hid (BR = if (kindK aggs true ⟨op, ⟨vt, vn, vs, vb⟩, tab, name, tt, cc, nt, st⟩ (rs.map (·.2.1))).2 != 0 then (noE, 0, (kindK aggs true ⟨op, ⟨vt, vn, vs, vb⟩, tab, name, tt, cc, nt, st⟩ (rs.map (·.2.1))).2) else (.mk ⟨op, ⟨vt, vn, vs, vb⟩, tab, name, tt, cc, nt, st⟩ (rs.map (·.1)), (kindK aggs true ⟨op, ⟨vt, vn, vs, vb⟩, tab, name, tt, cc, nt, st⟩ (rs.map (·.2.1))).1, 0)) := hid HBR.out
          obtain ⟨⟨kd, er⟩, hN⟩ : ∃ q, kindK aggs true ⟨op, ⟨vt, vn, vs, vb⟩, tab, name, tt, cc, nt, st⟩ (rs.map (·.2.1)) = q := ⟨_, rfl⟩
          rw [hN] at HBR HK2
          unfold Kp2 at HK2
          clear hN HN2 hg
          go_wp2_with (first | (guard_target =~ wpList _ _ _ (Oper.mk _ (Op.load 72 _) _ _ _ _ :: _) _ _; refine wpList_load_row rfl 72 _ rfl w.heap.size rfl 72 #[.slice fo fn fc, .slice no nn nc, .bool aggs, .bool true] (0, 0) _ HSr.out Tryz.underlying72 rfl (by kernel_rfl) ?_) | (guard_target =~ wpList _ _ _ (Oper.mk _ (Op.load 26 _) _ _ _ _ :: _) _ _; refine wpList_load_row rfl 26 _ rfl (w.heap.size + 1) rfl 26 (XR.cells ⟨⟨op, ⟨vt, vn, vs, vb⟩, tab, name, tt, cc, nt, st⟩, roa, rs.length, rc⟩) (0, 0) _ HEr.out Tryz.underlying26 rfl (by kernel_rfl) ?_))
          refine HK2.out.mono ?_
          rintro e w4 ⟨rfl, hg4⟩
          have HZ4 := hid ((hg4.block _ (lt_of_block HZr.out)).trans HZr.out)
          have HG4 := hid hg4
          by_cases her : er = 0
          · subst her
            have HBR : Hid (BR = (.mk ⟨op, ⟨vt, vn, vs, vb⟩, tab, name, tt, cc, nt, st⟩ (rs.map (·.1)), kd, 0)) := hid HBR.out
            have HZS : Hid (∀ u, (w4.setCell ⟨w.heap.size + 1, 11, none⟩ u).heap[w.heap.size + 1 + 1]? = some (.cells zeroX 26 (0, 0))) := hid (fun u => by rw [Below.heap_setCell _ _ _ _ (by simp)]; exact HZ4.out)
            have HFIN : Hid (∀ u W9, Go1 (w.heap.size + 1 + 1) (w4.setCell ⟨w.heap.size + 1, 11, none⟩ u) W9 → Q (.returned (.tuple #[XR.val ⟨⟨op, ⟨vt, vn, vs, vb⟩, tab, name, tt, cc, nt, st⟩, oa1, rs.length, rs.length⟩, .int .i64 kd, .int .i64 0])) W9) := hid (fun u W9 h9 => by
              have hz9 := h9.size
              simp only [World.size_setCell] at hz9
              have hlt := HLT.out
              refine HQ.out _ HBR.out ⟨⟨op, ⟨vt, vn, vs, vb⟩, tab, name, tt, cc, nt, st⟩, oa1, rs.length, rs.length⟩ _ W9 rfl ((mk_at _ (HKA.out.of kX_ok (by have := HG4.out.size; omega) (fun b hb hl => ?_))).mono (fun b _ hb => ?_)) ?_
              · have hb : W1.heap.size ≤ b := hb
                rw [h9.get (by simp only [World.size_setCell]; have := HG4.out.size; omega) (by omega), Below.heap_setCell _ _ _ _ (by simp; omega), HG4.out.block _ hl]
              · have hb : W1.heap.size ≤ b := hb
                show w.heap.size ≤ b; omega
              · exact Go1.up (Go1.up ((HG1.out.trans HG.out).trans HG4.out) (Go1.set (w.heap.size + 1) 11 w4 u) (by omega)) h9 (by omega))
            have cE := Rg.blk_cells ((hg4.block _ (lt_of_block HEr.out)).trans HEr.out)
            have fE := Rg.blk_free ((hg4.block _ (lt_of_block HEr.out)).trans HEr.out)
            have b0 : w4.cell? ⟨w.heap.size + 1, 0, none⟩ = some (.int .i64 op) := cE 0
            have b1 : w4.cell? ⟨w.heap.size + 1, 1, none⟩ = some (.int .i64 vt) := cE 1
            have b2 : w4.cell? ⟨w.heap.size + 1, 2, none⟩ = some (.int .i64 vn) := cE 2
            have b3 : w4.cell? ⟨w.heap.size + 1, 3, none⟩ = some (.string vs) := cE 3
            have b4 : w4.cell? ⟨w.heap.size + 1, 4, none⟩ = some (.bool vb) := cE 4
            have b5 : w4.cell? ⟨w.heap.size + 1, 5, none⟩ = some (.string tab) := cE 5
            have b6 : w4.cell? ⟨w.heap.size + 1, 6, none⟩ = some (.string name) := cE 6
            have b7 : w4.cell? ⟨w.heap.size + 1, 7, none⟩ = some (.int .i64 tt) := cE 7
            have b8 : w4.cell? ⟨w.heap.size + 1, 8, none⟩ = some (.int .i64 cc) := cE 8
            have b9 : w4.cell? ⟨w.heap.size + 1, 9, none⟩ = some (.bool nt) := cE 9
            have b10 : w4.cell? ⟨w.heap.size + 1, 10, none⟩ = some (.bool st) := cE 10
            have b11 : w4.cell? ⟨w.heap.size + 1, 11, none⟩ = some (.slice roa rs.length rc) := cE 11
            clear HBR HQ hg4 cE HKA HK2
            go_wp2_with (first | (go_at_call 31; refine (clip_any oa1 rs.length c1 hc1 _).mono ?_; rintro e w' ⟨rfl, rfl⟩) | (guard_target =~ wpList _ _ _ (Oper.mk _ (Op.store 26 _ _) _ _ _ _ :: _) _ _; refine st_row (ty := 26) rfl rfl (w.heap.size + 1 + 1) _ rfl rfl 26 _ (HZS.out _) (by kernel_rfl) rfl (by kernel_rfl) ?_; intro W9 hW5 gW5 zW5; skip))
            have hT := Rg.blk_cells hW5
            (try change bodyPost _ _ _ _ _ _)
            refine bodyPost_ret (v := .tuple #[XR.val ⟨⟨op, ⟨vt, vn, vs, vb⟩, tab, name, tt, cc, nt, st⟩, oa1, rs.length, rs.length⟩, .int .i64 kd, .int .i64 0]) (by simp [results, Tryz.results24, go_sem, XR.val, nul, hT]; try rfl) rfl ?_
            exact HFIN.out _ W9 gW5
          · have q1 : (er != 0) = true := by simpa using her
            have HBR : Hid (BR = (noE, 0, er)) := hid (by rw [HBR.out]; exact if_pos q1)
            have HFIN : Hid (∀ W9, Go1 (w.heap.size + 1 + 1) w4 W9 → Q (.returned (.tuple #[XR.val ⟨{ op := 0 }, none, 0, 0⟩, .int .i64 0, .int .i64 er])) W9) := hid (fun W9 h9 => HQ.out _ HBR.out ⟨{ op := 0 }, none, 0, 0⟩ _ W9 rfl (leaf_at _) (Go1.up ((HG1.out.trans HG.out).trans HG4.out) h9 (by omega)))
            clear HBR HQ hg4 her HKA HK2
            go_wp2_with ((guard_target =~ wpList _ _ _ (Oper.mk _ (Op.store 26 _ _) _ _ _ _ :: _) _ _; refine st_row (ty := 26) rfl rfl (w.heap.size + 1 + 1) (XR.cells ⟨{ op := 0 }, none, 0, 0⟩) rfl rfl 26 _ HZ4.out (by kernel_rfl) rfl (by kernel_rfl) ?_; intro W9 hW5 gW5 zW5; skip))
            have hT := Rg.blk_cells hW5
            (try change bodyPost _ _ _ _ _ _)
            refine bodyPost_ret (v := .tuple #[XR.val ⟨{ op := 0 }, none, 0, 0⟩, .int .i64 0, .int .i64 er]) (by simp [results, Tryz.results24, go_sem, XR.val, nul, hT]; try rfl) rfl ?_
            exact HFIN.out W9 gW5
  | false =>
    obtain rfl : x4 = inn := hin
    go_enter Tryz.func24, Tryz.ntmps24
    go_wp2_with fail
    rw [HW1.out]
    clear HW1
    go_loopw [8, 9, 29] (fun s8 s9 s29 wr => ExRel rs W1 s8 s9 s29 wr) (fun _ _ s29 _ => rs.length - (intOf s29).toNat)
    · exact ⟨0, rfl, Nat.zero_le _, Gr.refl _, KL.nil, KL.nil, fun r hr => by simp at hr⟩
    · obtain ⟨k, rfl, hk, hg, hl1, hl2, hz⟩ := hrel.ex
      clear hrel
      have HG := hid hg
      have HL1 := hid hl1
      have HL2 := hid hl2
      have HZZ := hid hz
      have HSr : Hid (wr.heap[w.heap.size]? = some (.cells #[.slice fo fn fc, .slice no nn nc, .bool aggs, .bool false] 72 (0, 0))) := hid ((hg.block _ (lt_of_block HS.out)).trans HS.out)
      have HEr : Hid (wr.heap[w.heap.size + 1]? = some (.cells (XR.cells ⟨⟨op, ⟨vt, vn, vs, vb⟩, tab, name, tt, cc, nt, st⟩, roa, rs.length, rc⟩) 26 (0, 0))) := hid ((hg.block _ (lt_of_block HE.out)).trans HE.out)
      have HZr : Hid (wr.heap[w.heap.size + 1 + 1]? = some (.cells zeroX 26 (0, 0))) := hid ((hg.block _ (lt_of_block HZ.out)).trans HZ.out)
      have HIr : Hid (wr.heap[w.heap.size + 1 + 1 + 1]? = some (.cells #[.slice fo fn fc, .slice no nn nc, .bool aggs, .bool x4] 72 (0, 0))) := hid ((hg.block _ (lt_of_block HI.out)).trans HI.out)
      clear hl1 hl2 hz
      by_cases hkn : k < rs.length
      · have t0 : decide ((k : Int) < (rs.length : Int)) = true := fi_dec hkn
        have g1 : (k : Int) < (rs.length : Int) := fi_lt hkn
        have HM := hid (in_ms hkn)
        have HWK : Hid _ := hid (fi_wrap hkn (by omega : rs.length ≤ 2000000))
        obtain ⟨b, off, rk, hoa, hbl, hcs, HC⟩ := HK.out k hkn
        have hoa' : roa = some ⟨b, off, none⟩ := hoa
        subst hoa'
        clear hoa
        have hbr : b < wr.heap.size := by have := HG1.out.size; have := hg.size; omega
        obtain ⟨k0, k1, k2, k3, k4, k5, k6, k7, k8, k9, k10, k11⟩ := kid_cells (w := wr) (fun i u hu => hg.keep (HG1.out.keep (hcs i u hu)))
        obtain ⟨⟨y, kd, er⟩, hq⟩ : ∃ q, rs[k] = q := ⟨_, rfl⟩
        have HC : Hid (∀ W, Gr wr W → Calls Tryz.prog 24 #[.agg #[.slice fo fn fc, .slice no nn nc, .bool aggs, .bool x4], .agg rk.cells] W (Xp (y, kd, er) W)) := hid (fun W h => by
          have := HC W (HG1.out.trans (hg.trans h))
          rw [hq] at this
          exact this)
        have HQQ := hid hq
        have cI := Rg.blk_cells HIr.out
        have HAL := hid (alloc_at wr (.cells zeroX 26))
        have HGB := hid (fun W5 h => gr_boxE (w1 := wr) (o := .cells zeroX 26) (W := W5) h)
        have HLN : Hid (((rs.map (·.1)).take k).length ≤ 1000001) := hid (by simp; omega)
        have HLN2 : Hid (((rs.map (·.2.1)).take k).length ≤ 1000001) := hid (by simp; omega)
        clear hcs hg hk hq HNM HKD
        unfold Xp at HC
        go_wp2_with (first | (guard_target =~ wpList _ _ _ (Oper.mk _ (Op.store 26 _ _) _ _ _ _ :: _) _ _; refine st_row (ty := 26) rfl rfl wr.heap.size rk.cells rfl rfl 26 _ HAL.out (by kernel_rfl) rfl (by kernel_rfl) ?_; intro W5 hW5 gW5 zW5; have hg5 := HGB.out W5 gW5; have HW5 := hid hW5; have HI5 := hid ((hg5.block _ (lt_of_block HIr.out)).trans HIr.out); clear gW5 zW5 hW5) | (guard_target =~ wpList _ _ _ (Oper.mk _ (Op.load 26 _) _ _ _ _ :: _) _ _; refine wpList_load_row rfl 26 _ rfl wr.heap.size rfl 26 rk.cells (0, 0) _ HW5.out Tryz.underlying26 rfl (by kernel_rfl) ?_) | (guard_target =~ wpList _ _ _ (Oper.mk _ (Op.load 72 _) _ _ _ _ :: _) _ _; refine wpList_load_row rfl 72 _ rfl (w.heap.size + 1 + 1 + 1) rfl 72 #[.slice fo fn fc, .slice no nn nc, .bool aggs, .bool x4] (0, 0) _ HI5.out Tryz.underlying72 rfl (by kernel_rfl) ?_))
        refine (HC.out W5 hg5).mono ?_
        rintro e w3 ⟨r, rfl, hx, hg3⟩
        have HG5 := hid hg5
        have HG53 := hid hg3
        have HG3 := hid (hg5.trans hg3)
        have HX : Hid (Ex.At (Nw W5) w3 y r) := hid hx
        have HAV := hid (alloc_at w3 (.cells zeroX 26))
        have HGV := hid (fun W6 h => gr_boxE (w1 := w3) (o := .cells zeroX 26) (W := W6) h)
        clear hx hg3 hg5 HC HAL HGB HW5 HI5 k0 k1 k2 k3 k4 k5 k6 k7 k8 k9 k10 k11 cI
        unfold XR.val
        simp only
        by_cases her : er = 0
        · subst her
          have hXX := HO
          clear HO HB HQ
          go_upto_region 11 with (first | (guard_target =~ wpList _ _ _ (Oper.mk _ (Op.store 26 _ _) _ _ _ _ :: _) _ _; refine st_row (ty := 26) rfl rfl w3.heap.size r.cells rfl rfl 26 _ HAV.out (by kernel_rfl) rfl (by kernel_rfl) ?_; intro W6 hW5 gW5 zW5; have HG6 := hid (HG3.out.trans (HGV.out W6 gW5)); have HG36 := hid (HGV.out W6 gW5); have HW6 := hid hW5; have HZ6 := hid ((HG6.out.block _ (lt_of_block HZr.out)).trans HZr.out); clear gW5 zW5 hW5) | (guard_target =~ wpList _ _ _ (Oper.mk _ (Op.load 26 _) _ _ _ _ :: _) _ _; refine wpList_load_row rfl 26 _ rfl w3.heap.size rfl 26 r.cells (0, 0) _ HW6.out Tryz.underlying26 rfl (by kernel_rfl) ?_))
          go_wp2_with (first | (guard_target =~ wpList _ _ _ (Oper.mk _ (Op.load 26 _) _ _ _ _ :: _) _ _; refine wpList_load_row rfl 26 _ rfl w3.heap.size rfl 26 r.cells (0, 0) _ HW6.out Tryz.underlying26 rfl (by kernel_rfl) ?_) | (at_builtin; refine append_kl kX_ok kt_x _ rfl _ _ rfl u8 rfl (HL1.out.gr kX_ok (HG6.out.alloc _)) HLN.out (push_ok HG.out.size HL1.out HL2.out HG5.out HX.out HG53.out (HG36.out.alloc _)).1 (y := y) (r := r) (push_ok HG.out.size HL1.out HL2.out HG5.out HX.out HG53.out (HG36.out.alloc _)).2 rfl (alloc_at W6 _) rfl ?_) | fail)
          intro v8 w7 hk7 hz7 hm7
          have HK7 := hid hk7
          have HZ7 := hid hz7
          have HM7 := hid hm7
          have HA7 : Hid (W1.heap.size ≤ w7.heap.size) := hid (by have a := hz7.size; rw [World.size_alloc] at a; have := HG6.out.size; have := HG.out.size; omega)
          clear hk7 hz7 hm7
          go_wp2_with (first | (at_builtin; refine append_kl kI_ok kt_i _ rfl _ _ rfl u9 rfl (int_side _ HL2.out HG6.out HZ7.out HM7.out) HLN2.out (int_new HA7.out HK7.out _) (y := kd) (r := kd) rfl rfl (alloc_at w7 _) rfl ?_) | fail)
          intro v9 w8 hk8 hz8 hm8
          have HN := hid (exrel_step hkn HQQ.out HG.out HL1.out HL2.out HZZ.out HG6.out HK7.out HZ7.out hk8 hz8 hm8)
          clear hk8 hz8 hm8 HK7 HZ7 HM7 HA7 HL1 HL2 HZZ HG6 HX HQQ
          go_wp2_with fail
          exact ⟨HN.out, HM.out⟩
        · have q1 : (er != 0) = true := by simpa using her
          have HBE : Hid (BR = (noE, 0, er)) := hid (by have := HB.out k hkn HZZ.out (by rw [HQQ.out]; exact her); rw [HQQ.out] at this; exact this)
          have HFIN : Hid (∀ W6 W9, Gr wr W6 → Go1 (w.heap.size + 1 + 1) W6 W9 → Q (.returned (.tuple #[XR.val ⟨{ op := 0 }, none, 0, 0⟩, .int .i64 0, .int .i64 er])) W9) := hid (fun W6 W9 h6 h9 => HQ.out _ HBE.out ⟨{ op := 0 }, none, 0, 0⟩ _ W9 rfl (leaf_at _) (Go1.up ((HG1.out.trans HG.out).trans h6) h9 (by omega)))
          clear HO HB HQ HL1 HL2 HZZ HBE HX HQQ her
          go_wp2_with (first | (guard_target =~ wpList _ _ _ (Oper.mk _ (Op.store 26 _ _) _ _ _ _ :: _) _ _; refine st_row (ty := 26) rfl rfl w3.heap.size r.cells rfl rfl 26 _ HAV.out (by kernel_rfl) rfl (by kernel_rfl) ?_; intro W6 hW5 gW5 zW5; have HG6 := hid (HG3.out.trans (HGV.out W6 gW5)); have HG36 := hid (HGV.out W6 gW5); have HW6 := hid hW5; have HZ6 := hid ((HG6.out.block _ (lt_of_block HZr.out)).trans HZr.out); clear gW5 zW5 hW5) | (guard_target =~ wpList _ _ _ (Oper.mk _ (Op.load 26 _) _ _ _ _ :: _) _ _; refine wpList_load_row rfl 26 _ rfl w3.heap.size rfl 26 r.cells (0, 0) _ HW6.out Tryz.underlying26 rfl (by kernel_rfl) ?_) | (guard_target =~ wpList _ _ _ (Oper.mk _ (Op.store 26 _ _) _ _ _ _ :: _) _ _; refine st_row (ty := 26) rfl rfl (w.heap.size + 1 + 1) (XR.cells ⟨{ op := 0 }, none, 0, 0⟩) rfl rfl 26 _ HZ6.out (by kernel_rfl) rfl (by kernel_rfl) ?_; intro W9 hW5 gW5 zW5; skip))
          have hT := Rg.blk_cells hW5
          (try change bodyPost _ _ _ _ _ _)
          refine bodyPost_ret (v := .tuple #[XR.val ⟨{ op := 0 }, none, 0, 0⟩, .int .i64 0, .int .i64 er]) (by simp [results, Tryz.results24, go_sem, XR.val, nul, hT]; try rfl) rfl ?_
          exact HFIN.out W6 W9 HG6.out gW5
      · have t0 : decide ((k : Int) < (rs.length : Int)) = false := fi_dec0 hkn
        obtain rfl : k = rs.length := by omega
        have hall : ∀ r ∈ rs, r.2.2 = 0 := by have := HZZ.out; rwa [List.take_length] at this
        have hl1 := HL1.out
        have hl2 := HL2.out
        rw [List.take_of_length_le (by simp)] at hl1 hl2
        obtain ⟨⟨oa1, n1, c1⟩, hu8, hka, _⟩ := hl1.at kX_ok (by simp; omega)
        obtain ⟨⟨oa2, n2, c2⟩, hu9, hkb, _⟩ := hl2.at kI_ok (by simp; omega)
        obtain rfl : n1 = rs.length := by have := hka.1; simpa using this
        obtain rfl : n2 = rs.length := by have := hkb.1; simpa using this
        have hc1 : rs.length ≤ c1 := hka.2.1.1
        have hat := ints_at hkb
        have hka' := hka.mono kX_ok (S' := fun b => W1.heap.size ≤ b) (fun b _ hb => hb.1)
        have HKA := hid hka'
        have HK2 : Hid (Calls Tryz.prog 39 #[.agg #[.slice fo fn fc, .slice no nn nc, .bool aggs, .bool false], .agg (XR.cells ⟨⟨op, ⟨vt, vn, vs, vb⟩, tab, name, tt, cc, nt, st⟩, roa, rs.length, rc⟩), .slice oa2 rs.length c2] wr (Kp2 (kindK aggs false ⟨op, ⟨vt, vn, vs, vb⟩, tab, name, tt, cc, nt, st⟩ (rs.map (·.2.1))) wr)) := hid (by
          have := HKD.out oa2 c2 wr (rs.map (·.2.1)) hat (by simp; omega)
          rw [List.length_map] at this
          exact this)
        have HN2 : Hid (Calls Tryz.prog 38 #[.agg #[.slice fo fn fc, .slice no nn nc, .bool aggs, .bool false], .agg (XR.cells ⟨⟨op, ⟨vt, vn, vs, vb⟩, tab, name, tt, cc, nt, st⟩, roa, rs.length, rc⟩)] wr (Xp (bnameK fr ⟨op, ⟨vt, vn, vs, vb⟩, tab, name, tt, cc, nt, st⟩) wr)) := hid (HNM.out wr (HG1.out.trans hg))
        have HBR := hid (HO.out hall)
        have hu8' : u8 = .slice oa1 rs.length c1 := hu8
        have hu9' : u9 = .slice oa2 rs.length c2 := hu9
        subst hu8' hu9'
        clear hu8 hu9 hka hkb hka' hat hall hl1 hl2 HL1 HL2 HZZ HO HB HK HNM HKD hk
        obtain ⟨x2, j2⟩ : ∃ x, (op == 2) = x := ⟨_, rfl⟩
        obtain ⟨x0, j0⟩ : ∃ x, (rs.length == 0) = x := ⟨_, rfl⟩
        have i0 : ((rs.length : Int) == 0) = x0 := nat_eq _ 0 x0 j0
        rw [j2, j0] at HBR
        have HLT : Hid (w.heap.size + 1 + 1 < wr.heap.size ∧ W1.heap.size ≤ wr.heap.size ∧ w.heap.size + 1 + 1 < W1.heap.size ∧ w.heap.size ≤ wr.heap.size) := hid ⟨lt_of_block HZr.out, hg.size, lt_of_block HZ.out, by have := lt_of_block HZr.out; omega⟩
        have bop : wr.cell? ⟨w.heap.size + 1, 0, none⟩ = some (.int .i64 op) := Rg.blk_cells HEr.out 0
        cases x2 with
        | true =>
          cases x0 with
          | true =>
            have HBR : Hid (BR = bnameK fr ⟨op, ⟨vt, vn, vs, vb⟩, tab, name, tt, cc, nt, st⟩) := hid HBR.out
            obtain ⟨⟨y, kd, er⟩, hN⟩ : ∃ q, bnameK fr ⟨op, ⟨vt, vn, vs, vb⟩, tab, name, tt, cc, nt, st⟩ = q := ⟨_, rfl⟩
            rw [hN] at HBR HN2
            unfold Xp at HN2
            have HFIN : Hid (∀ w4 W9 r, Ex.At (Nw wr) w4 y r → Gr wr w4 → Go1 (w.heap.size + 1 + 1) w4 W9 → Q (.returned (.tuple #[XR.val r, .int .i64 kd, .int .i64 er])) W9) := hid (fun w4 W9 r hx h4 h9 => HQ.out _ HBR.out r _ W9 rfl ((hx.of h9.size (fun b hb hl => h9.get hl (by have := HLT.out.1; have : wr.heap.size ≤ b := hb; omega))).mono (fun b _ hb => by have := HLT.out.2.2.2; have : wr.heap.size ≤ b := hb; show w.heap.size ≤ b; omega)) (Go1.up ((HG1.out.trans HG.out).trans h4) h9 (by omega)))
            clear hN HK2 HKA HBR HQ hg
            go_wp2_with (first | (guard_target =~ wpList _ _ _ (Oper.mk _ (Op.load 72 _) _ _ _ _ :: _) _ _; refine wpList_load_row rfl 72 _ rfl w.heap.size rfl 72 #[.slice fo fn fc, .slice no nn nc, .bool aggs, .bool false] (0, 0) _ HSr.out Tryz.underlying72 rfl (by kernel_rfl) ?_) | (guard_target =~ wpList _ _ _ (Oper.mk _ (Op.load 26 _) _ _ _ _ :: _) _ _; refine wpList_load_row rfl 26 _ rfl (w.heap.size + 1) rfl 26 (XR.cells ⟨⟨op, ⟨vt, vn, vs, vb⟩, tab, name, tt, cc, nt, st⟩, roa, rs.length, rc⟩) (0, 0) _ HEr.out Tryz.underlying26 rfl (by kernel_rfl) ?_))
            refine HN2.out.mono ?_
            rintro e w4 ⟨r, rfl, hx, hg4⟩
            have HZ4 := hid ((hg4.block _ (lt_of_block HZr.out)).trans HZr.out)
            have HX := hid hx
            have HG4 := hid hg4
            clear hx hg4
            unfold XR.val
            go_wp2_with ((guard_target =~ wpList _ _ _ (Oper.mk _ (Op.store 26 _ _) _ _ _ _ :: _) _ _; refine st_row (ty := 26) rfl rfl (w.heap.size + 1 + 1) (XR.cells r) rfl rfl 26 _ HZ4.out (by kernel_rfl) rfl (by kernel_rfl) ?_; intro W9 hW5 gW5 zW5; skip))
            have hT := Rg.blk_cells hW5
            (try change bodyPost _ _ _ _ _ _)
            refine bodyPost_ret (v := .tuple #[XR.val r, .int .i64 kd, .int .i64 er]) (by simp [results, Tryz.results24, go_sem, XR.val, nul, hT]; try rfl) rfl ?_
            exact HFIN.out w4 W9 r HX.out HG4.out gW5
          | false =>
            have HBR : Hid (BR = if (kindK aggs false ⟨op, ⟨vt, vn, vs, vb⟩, tab, name, tt, cc, nt, st⟩ (rs.map (·.2.1))).2 != 0 then (noE, 0, (kindK aggs false ⟨op, ⟨vt, vn, vs, vb⟩, tab, name, tt, cc, nt, st⟩ (rs.map (·.2.1))).2) else (.mk ⟨op, ⟨vt, vn, vs, vb⟩, tab, name, tt, cc, nt, st⟩ (rs.map (·.1)), (kindK aggs false ⟨op, ⟨vt, vn, vs, vb⟩, tab, name, tt, cc, nt, st⟩ (rs.map (·.2.1))).1, 0)) := hid HBR.out
            obtain ⟨⟨kd, er⟩, hN⟩ : ∃ q, kindK aggs false ⟨op, ⟨vt, vn, vs, vb⟩, tab, name, tt, cc, nt, st⟩ (rs.map (·.2.1)) = q := ⟨_, rfl⟩
            rw [hN] at HBR HK2
            unfold Kp2 at HK2
            clear hN HN2 hg
            go_wp2_with (first | (guard_target =~ wpList _ _ _ (Oper.mk _ (Op.load 72 _) _ _ _ _ :: _) _ _; refine wpList_load_row rfl 72 _ rfl w.heap.size rfl 72 #[.slice fo fn fc, .slice no nn nc, .bool aggs, .bool false] (0, 0) _ HSr.out Tryz.underlying72 rfl (by kernel_rfl) ?_) | (guard_target =~ wpList _ _ _ (Oper.mk _ (Op.load 26 _) _ _ _ _ :: _) _ _; refine wpList_load_row rfl 26 _ rfl (w.heap.size + 1) rfl 26 (XR.cells ⟨⟨op, ⟨vt, vn, vs, vb⟩, tab, name, tt, cc, nt, st⟩, roa, rs.length, rc⟩) (0, 0) _ HEr.out Tryz.underlying26 rfl (by kernel_rfl) ?_))
            refine HK2.out.mono ?_
            rintro e w4 ⟨rfl, hg4⟩
            have HZ4 := hid ((hg4.block _ (lt_of_block HZr.out)).trans HZr.out)
            have HG4 := hid hg4
            by_cases her : er = 0
            · subst her
              have HBR : Hid (BR = (.mk ⟨op, ⟨vt, vn, vs, vb⟩, tab, name, tt, cc, nt, st⟩ (rs.map (·.1)), kd, 0)) := hid HBR.out
              have HZS : Hid (∀ u, (w4.setCell ⟨w.heap.size + 1, 11, none⟩ u).heap[w.heap.size + 1 + 1]? = some (.cells zeroX 26 (0, 0))) := hid (fun u => by rw [Below.heap_setCell _ _ _ _ (by simp)]; exact HZ4.out)
              have HFIN : Hid (∀ u W9, Go1 (w.heap.size + 1 + 1) (w4.setCell ⟨w.heap.size + 1, 11, none⟩ u) W9 → Q (.returned (.tuple #[XR.val ⟨⟨op, ⟨vt, vn, vs, vb⟩, tab, name, tt, cc, nt, st⟩, oa1, rs.length, rs.length⟩, .int .i64 kd, .int .i64 0])) W9) := hid (fun u W9 h9 => by
                have hz9 := h9.size
                simp only [World.size_setCell] at hz9
                have hlt := HLT.out
                refine HQ.out _ HBR.out ⟨⟨op, ⟨vt, vn, vs, vb⟩, tab, name, tt, cc, nt, st⟩, oa1, rs.length, rs.length⟩ _ W9 rfl ((mk_at _ (HKA.out.of kX_ok (by have := HG4.out.size; omega) (fun b hb hl => ?_))).mono (fun b _ hb => ?_)) ?_
                · have hb : W1.heap.size ≤ b := hb
                  rw [h9.get (by simp only [World.size_setCell]; have := HG4.out.size; omega) (by omega), Below.heap_setCell _ _ _ _ (by simp; omega), HG4.out.block _ hl]
                · have hb : W1.heap.size ≤ b := hb
                  show w.heap.size ≤ b; omega
                · exact Go1.up (Go1.up ((HG1.out.trans HG.out).trans HG4.out) (Go1.set (w.heap.size + 1) 11 w4 u) (by omega)) h9 (by omega))
              have cE := Rg.blk_cells ((hg4.block _ (lt_of_block HEr.out)).trans HEr.out)
              have fE := Rg.blk_free ((hg4.block _ (lt_of_block HEr.out)).trans HEr.out)
              have b0 : w4.cell? ⟨w.heap.size + 1, 0, none⟩ = some (.int .i64 op) := cE 0
              have b1 : w4.cell? ⟨w.heap.size + 1, 1, none⟩ = some (.int .i64 vt) := cE 1
              have b2 : w4.cell? ⟨w.heap.size + 1, 2, none⟩ = some (.int .i64 vn) := cE 2
              have b3 : w4.cell? ⟨w.heap.size + 1, 3, none⟩ = some (.string vs) := cE 3
              have b4 : w4.cell? ⟨w.heap.size + 1, 4, none⟩ = some (.bool vb) := cE 4
              have b5 : w4.cell? ⟨w.heap.size + 1, 5, none⟩ = some (.string tab) := cE 5
              have b6 : w4.cell? ⟨w.heap.size + 1, 6, none⟩ = some (.string name) := cE 6
              have b7 : w4.cell? ⟨w.heap.size + 1, 7, none⟩ = some (.int .i64 tt) := cE 7
              have b8 : w4.cell? ⟨w.heap.size + 1, 8, none⟩ = some (.int .i64 cc) := cE 8
              have b9 : w4.cell? ⟨w.heap.size + 1, 9, none⟩ = some (.bool nt) := cE 9
              have b10 : w4.cell? ⟨w.heap.size + 1, 10, none⟩ = some (.bool st) := cE 10
              have b11 : w4.cell? ⟨w.heap.size + 1, 11, none⟩ = some (.slice roa rs.length rc) := cE 11
              clear HBR HQ hg4 cE HKA HK2
              go_wp2_with (first | (go_at_call 31; refine (clip_any oa1 rs.length c1 hc1 _).mono ?_; rintro e w' ⟨rfl, rfl⟩) | (guard_target =~ wpList _ _ _ (Oper.mk _ (Op.store 26 _ _) _ _ _ _ :: _) _ _; refine st_row (ty := 26) rfl rfl (w.heap.size + 1 + 1) _ rfl rfl 26 _ (HZS.out _) (by kernel_rfl) rfl (by kernel_rfl) ?_; intro W9 hW5 gW5 zW5; skip))
              have hT := Rg.blk_cells hW5
              (try change bodyPost _ _ _ _ _ _)
              refine bodyPost_ret (v := .tuple #[XR.val ⟨⟨op, ⟨vt, vn, vs, vb⟩, tab, name, tt, cc, nt, st⟩, oa1, rs.length, rs.length⟩, .int .i64 kd, .int .i64 0]) (by simp [results, Tryz.results24, go_sem, XR.val, nul, hT]; try rfl) rfl ?_
              exact HFIN.out _ W9 gW5
            · have q1 : (er != 0) = true := by simpa using her
              have HBR : Hid (BR = (noE, 0, er)) := hid (by rw [HBR.out]; exact if_pos q1)
              have HFIN : Hid (∀ W9, Go1 (w.heap.size + 1 + 1) w4 W9 → Q (.returned (.tuple #[XR.val ⟨{ op := 0 }, none, 0, 0⟩, .int .i64 0, .int .i64 er])) W9) := hid (fun W9 h9 => HQ.out _ HBR.out ⟨{ op := 0 }, none, 0, 0⟩ _ W9 rfl (leaf_at _) (Go1.up ((HG1.out.trans HG.out).trans HG4.out) h9 (by omega)))
              clear HBR HQ hg4 her HKA HK2
              go_wp2_with ((guard_target =~ wpList _ _ _ (Oper.mk _ (Op.store 26 _ _) _ _ _ _ :: _) _ _; refine st_row (ty := 26) rfl rfl (w.heap.size + 1 + 1) (XR.cells ⟨{ op := 0 }, none, 0, 0⟩) rfl rfl 26 _ HZ4.out (by kernel_rfl) rfl (by kernel_rfl) ?_; intro W9 hW5 gW5 zW5; skip))
              have hT := Rg.blk_cells hW5
              (try change bodyPost _ _ _ _ _ _)
              refine bodyPost_ret (v := .tuple #[XR.val ⟨{ op := 0 }, none, 0, 0⟩, .int .i64 0, .int .i64 er]) (by simp [results, Tryz.results24, go_sem, XR.val, nul, hT]; try rfl) rfl ?_
              exact HFIN.out W9 gW5
        | false =>
          have HBR : Hid (BR = if (kindK aggs false ⟨op, ⟨vt, vn, vs, vb⟩, tab, name, tt, cc, nt, st⟩ (rs.map (·.2.1))).2 != 0 then (noE, 0, (kindK aggs false ⟨op, ⟨vt, vn, vs, vb⟩, tab, name, tt, cc, nt, st⟩ (rs.map (·.2.1))).2) else (.mk ⟨op, ⟨vt, vn, vs, vb⟩, tab, name, tt, cc, nt, st⟩ (rs.map (·.1)), (kindK aggs false ⟨op, ⟨vt, vn, vs, vb⟩, tab, name, tt, cc, nt, st⟩ (rs.map (·.2.1))).1, 0)) := hid HBR.out
          obtain ⟨⟨kd, er⟩, hN⟩ : ∃ q, kindK aggs false ⟨op, ⟨vt, vn, vs, vb⟩, tab, name, tt, cc, nt, st⟩ (rs.map (·.2.1)) = q := ⟨_, rfl⟩
          rw [hN] at HBR HK2
          unfold Kp2 at HK2
          clear hN HN2 hg
          go_wp2_with (first | (guard_target =~ wpList _ _ _ (Oper.mk _ (Op.load 72 _) _ _ _ _ :: _) _ _; refine wpList_load_row rfl 72 _ rfl w.heap.size rfl 72 #[.slice fo fn fc, .slice no nn nc, .bool aggs, .bool false] (0, 0) _ HSr.out Tryz.underlying72 rfl (by kernel_rfl) ?_) | (guard_target =~ wpList _ _ _ (Oper.mk _ (Op.load 26 _) _ _ _ _ :: _) _ _; refine wpList_load_row rfl 26 _ rfl (w.heap.size + 1) rfl 26 (XR.cells ⟨⟨op, ⟨vt, vn, vs, vb⟩, tab, name, tt, cc, nt, st⟩, roa, rs.length, rc⟩) (0, 0) _ HEr.out Tryz.underlying26 rfl (by kernel_rfl) ?_))
          refine HK2.out.mono ?_
          rintro e w4 ⟨rfl, hg4⟩
          have HZ4 := hid ((hg4.block _ (lt_of_block HZr.out)).trans HZr.out)
          have HG4 := hid hg4
          by_cases her : er = 0
          · subst her
            have HBR : Hid (BR = (.mk ⟨op, ⟨vt, vn, vs, vb⟩, tab, name, tt, cc, nt, st⟩ (rs.map (·.1)), kd, 0)) := hid HBR.out
            have HZS : Hid (∀ u, (w4.setCell ⟨w.heap.size + 1, 11, none⟩ u).heap[w.heap.size + 1 + 1]? = some (.cells zeroX 26 (0, 0))) := hid (fun u => by rw [Below.heap_setCell _ _ _ _ (by simp)]; exact HZ4.out)
            have HFIN : Hid (∀ u W9, Go1 (w.heap.size + 1 + 1) (w4.setCell ⟨w.heap.size + 1, 11, none⟩ u) W9 → Q (.returned (.tuple #[XR.val ⟨⟨op, ⟨vt, vn, vs, vb⟩, tab, name, tt, cc, nt, st⟩, oa1, rs.length, rs.length⟩, .int .i64 kd, .int .i64 0])) W9) := hid (fun u W9 h9 => by
              have hz9 := h9.size
              simp only [World.size_setCell] at hz9
              have hlt := HLT.out
              refine HQ.out _ HBR.out ⟨⟨op, ⟨vt, vn, vs, vb⟩, tab, name, tt, cc, nt, st⟩, oa1, rs.length, rs.length⟩ _ W9 rfl ((mk_at _ (HKA.out.of kX_ok (by have := HG4.out.size; omega) (fun b hb hl => ?_))).mono (fun b _ hb => ?_)) ?_
              · have hb : W1.heap.size ≤ b := hb
                rw [h9.get (by simp only [World.size_setCell]; have := HG4.out.size; omega) (by omega), Below.heap_setCell _ _ _ _ (by simp; omega), HG4.out.block _ hl]
              · have hb : W1.heap.size ≤ b := hb
                show w.heap.size ≤ b; omega
              · exact Go1.up (Go1.up ((HG1.out.trans HG.out).trans HG4.out) (Go1.set (w.heap.size + 1) 11 w4 u) (by omega)) h9 (by omega))
            have cE := Rg.blk_cells ((hg4.block _ (lt_of_block HEr.out)).trans HEr.out)
            have fE := Rg.blk_free ((hg4.block _ (lt_of_block HEr.out)).trans HEr.out)
            have b0 : w4.cell? ⟨w.heap.size + 1, 0, none⟩ = some (.int .i64 op) := cE 0
            have b1 : w4.cell? ⟨w.heap.size + 1, 1, none⟩ = some (.int .i64 vt) := cE 1
            have b2 : w4.cell? ⟨w.heap.size + 1, 2, none⟩ = some (.int .i64 vn) := cE 2
            have b3 : w4.cell? ⟨w.heap.size + 1, 3, none⟩ = some (.string vs) := cE 3
            have b4 : w4.cell? ⟨w.heap.size + 1, 4, none⟩ = some (.bool vb) := cE 4
            have b5 : w4.cell? ⟨w.heap.size + 1, 5, none⟩ = some (.string tab) := cE 5
            have b6 : w4.cell? ⟨w.heap.size + 1, 6, none⟩ = some (.string name) := cE 6
            have b7 : w4.cell? ⟨w.heap.size + 1, 7, none⟩ = some (.int .i64 tt) := cE 7
            have b8 : w4.cell? ⟨w.heap.size + 1, 8, none⟩ = some (.int .i64 cc) := cE 8
            have b9 : w4.cell? ⟨w.heap.size + 1, 9, none⟩ = some (.bool nt) := cE 9
            have b10 : w4.cell? ⟨w.heap.size + 1, 10, none⟩ = some (.bool st) := cE 10
            have b11 : w4.cell? ⟨w.heap.size + 1, 11, none⟩ = some (.slice roa rs.length rc) := cE 11
            clear HBR HQ hg4 cE HKA HK2
            go_wp2_with (first | (go_at_call 31; refine (clip_any oa1 rs.length c1 hc1 _).mono ?_; rintro e w' ⟨rfl, rfl⟩) | (guard_target =~ wpList _ _ _ (Oper.mk _ (Op.store 26 _ _) _ _ _ _ :: _) _ _; refine st_row (ty := 26) rfl rfl (w.heap.size + 1 + 1) _ rfl rfl 26 _ (HZS.out _) (by kernel_rfl) rfl (by kernel_rfl) ?_; intro W9 hW5 gW5 zW5; skip))
            have hT := Rg.blk_cells hW5
            (try change bodyPost _ _ _ _ _ _)
            refine bodyPost_ret (v := .tuple #[XR.val ⟨⟨op, ⟨vt, vn, vs, vb⟩, tab, name, tt, cc, nt, st⟩, oa1, rs.length, rs.length⟩, .int .i64 kd, .int .i64 0]) (by simp [results, Tryz.results24, go_sem, XR.val, nul, hT]; try rfl) rfl ?_
            exact HFIN.out _ W9 gW5
          · have q1 : (er != 0) = true := by simpa using her
            have HBR : Hid (BR = (noE, 0, er)) := hid (by rw [HBR.out]; exact if_pos q1)
            have HFIN : Hid (∀ W9, Go1 (w.heap.size + 1 + 1) w4 W9 → Q (.returned (.tuple #[XR.val ⟨{ op := 0 }, none, 0, 0⟩, .int .i64 0, .int .i64 er])) W9) := hid (fun W9 h9 => HQ.out _ HBR.out ⟨{ op := 0 }, none, 0, 0⟩ _ W9 rfl (leaf_at _) (Go1.up ((HG1.out.trans HG.out).trans HG4.out) h9 (by omega)))
            clear HBR HQ hg4 her HKA HK2
            go_wp2_with ((guard_target =~ wpList _ _ _ (Oper.mk _ (Op.store 26 _ _) _ _ _ _ :: _) _ _; refine st_row (ty := 26) rfl rfl (w.heap.size + 1 + 1) (XR.cells ⟨{ op := 0 }, none, 0, 0⟩) rfl rfl 26 _ HZ4.out (by kernel_rfl) rfl (by kernel_rfl) ?_; intro W9 hW5 gW5 zW5; skip))
            have hT := Rg.blk_cells hW5
            (try change bodyPost _ _ _ _ _ _)
            refine bodyPost_ret (v := .tuple #[XR.val ⟨{ op := 0 }, none, 0, 0⟩, .int .i64 0, .int .i64 er]) (by simp [results, Tryz.results24, go_sem, XR.val, nul, hT]; try rfl) rfl ?_
            exact HFIN.out W9 gW5
end Go.Proofs.YtbeinfhgfflneaaGreat
end
section
namespace Go.Proofs.YtbeinfhgfflneaaGreat
open Go.RowKit
set_option linter.unusedSimpArgs false
set_option linter.unusedVariables false
attribute [local go_sem] Rg.leads_value Rg.leads_skip Rg.leads_enter Rg.brings_value Rg.brings_skip Rg.brings_enter Rg.bringsG_value Rg.bringsG_enter Rg.once_normal Rg.once_exit Rg.once_ret Rg.once_panic Rg.once_goto
theorem bindXs_len (fr : List Tn) (aggs in_ : Bool) : ∀ xs : List Ex, (bindXs fr aggs in_ xs).length = xs.length
  | [] => by rw [bindXs]; rfl
  | x :: xs => by rw [bindXs, List.length_cons, List.length_cons, bindXs_len fr aggs in_ xs]
theorem bindXs_get (fr : List Tn) (aggs in_ : Bool) : ∀ (xs : List Ex) (k : Nat) (h : k < xs.length) (h2 : k < (bindXs fr aggs in_ xs).length), (bindXs fr aggs in_ xs)[k] = bindX fr aggs in_ xs[k]
  | x :: xs, 0, _, _ => by simp only [bindXs]; rfl
  | x :: xs, k + 1, h, h2 => by
    simp only [bindXs, List.getElem_cons_succ]
    exact bindXs_get fr aggs in_ xs k (by simpa using h) _
theorem bd_len : ∀ xs : List Ex, xs.length ≤ Exs.forms xs
  | [] => Nat.zero_le _
  | .mk h ks :: xs => by
    have := bd_len xs
    rw [Exs.forms, Ex.forms, List.length_cons]
    omega
theorem bd_mem : ∀ (xs : List Ex) (y : Ex), y ∈ xs → y.forms ≤ Exs.forms xs
  | x :: xs, y, h => by
    rw [Exs.forms]
    rcases List.mem_cons.1 h with rfl | h
    · omega
    · have := bd_mem xs y h; omega
theorem kx_of {s : Sv} {aggs inn : Bool} {fr : List Tn} {w : World} {h : Hd} {ks : List Ex} {r : XR} (hx : Ex.At Al w (.mk h ks) r) (hl : ks.length ≤ 1000000) (hF : FrAt w s fr)
    (hk : ∀ y, y ∈ ks → ∀ r' W, FrAt W s fr → Ex.At Al W y r' → Calls Tryz.prog 24 #[s.val aggs inn, XR.val r'] W (Xp (bindX fr aggs inn y) W)) : KX s aggs inn w r.oa r.n (bindXs fr aggs inn ks) := by
  unfold Ex.At at hx
  obtain ⟨h1, h2, h3, rs, h4, h5, h6⟩ := hx
  have hlen := bindXs_len fr aggs inn ks
  refine ⟨by omega, by omega, fun k hk' => ?_⟩
  have hkk : k < ks.length := by omega
  have hkr : k < rs.length := by omega
  rcases h5 with h0 | ⟨b, off, hoa, hbl, hSb, hfr, hr⟩
  · rw [h0] at hkr; simp at hkr
  · refine ⟨b, off, rs[k], hoa, hbl, hr k hkr, fun W hW => ?_⟩
    rw [bindXs_get fr aggs inn ks k hkk]
    exact hk _ (List.getElem_mem hkk) _ W (hF.keep hW) ((h6.get k hkk hkr).of hW.size (fun b _ hb => hW.block b hb))
theorem bexpr_any (s : Sv) (aggs : Bool) (fr : List Tn) : ∀ (N : Nat), N ≤ 1000000 → ∀ (x : Ex), x.forms ≤ N → ∀ (in_ : Bool) (r : XR) (w : World), FrAt w s fr → Ex.At Al w x r → Calls Tryz.prog 24 #[s.val aggs in_, XR.val r] w (Xp (bindX fr aggs in_ x) w)
  | 0, _, .mk h ks, hx, _, _, _, _, _ => by rw [Ex.forms] at hx; omega
  | N + 1, hN, .mk h ks, hx, in_, r, w, hF, hat => by
    rw [Ex.forms] at hx
    have hr : r.h = h := by unfold Ex.At at hat; exact hat.1
    have hK : KX s aggs (in_ || h.op == 4) w r.oa r.n (bindXs fr aggs (in_ || h.op == 4) ks) := kx_of hat (by have := bd_len ks; omega) hF (fun y hy r' W hF' hat' => bexpr_any s aggs fr N (by omega) y (by have := bd_mem ks y hy; omega) _ r' W hF' hat')
    have := bexpr_form s aggs in_ (in_ || h.op == 4) fr h r.oa r.n r.cap w _ hF rfl hK
    rw [bindX]
    rw [← hr] at this ⊢
    exact this
set_option maxHeartbeats 8000000 in
set_option maxRecDepth 100000 in
theorem bindE_any (x : Ex) (r : XR) (fo no : Option Addr) (n fc nc : Nat) (aggs : Bool) (fr : List Tn) (w : World) (hx : x.forms ≤ 1000000) (hF : FrAt w ⟨fo, n, fc, no, n, nc⟩ fr) (hat : Ex.At Al w x r) :
    Calls Tryz.prog 15 #[XR.val r, .slice fo n fc, .slice no n nc, .bool aggs] w (Xp (bindX fr aggs false x) w) := by
  have HC : Hid (∀ W, Gr w W → Calls Tryz.prog 24 #[Sv.val ⟨fo, n, fc, no, n, nc⟩ aggs false, XR.val r] W (Xp (bindX fr aggs false x) W)) := hid (fun W h => bexpr_any _ aggs fr x.forms hx x (Nat.le_refl _) false r W (hF.keep h) (hat.of h.size (fun b _ hb => h.block b hb)))
  have HQ : Hid (∀ (r : XR) (e : Ending) w', e = .returned (.tuple #[XR.val r, .int .i64 (bindX fr aggs false x).2.1, .int .i64 (bindX fr aggs false x).2.2]) → Ex.At (Nw w) w' (bindX fr aggs false x).1 r → Gr w w' → Xp (bindX fr aggs false x) w e w') := hid (fun r e w' h1 h2 h3 => ⟨r, h1, h2, h3⟩)
  clear hx hF hat
  generalize bindX fr aggs false x = BR at *
  generalize Xp BR w = Q at *
  obtain ⟨y, kd, er⟩ := BR
  unfold Xp at HC
  obtain ⟨W1, hW1⟩ : ∃ W1, (w.alloc (.cells (XR.cells r) 26)).alloc (.cells zeroX 26) = W1 := ⟨_, rfl⟩
  have HW1 := hid hW1
  have HG1 : Hid (Gr w W1) := hid (by rw [← hW1]; exact ((Gr.refl w).alloc _).alloc _)
  have HE : Hid (W1.heap[w.heap.size]? = some (.cells (XR.cells r) 26 (0, 0))) := hid (by rw [← hW1]; exact (((Gr.refl _).alloc _).block _ (by rw [World.size_alloc]; exact Nat.lt_succ_self _)).trans (alloc_at _ _))
  have HZ : Hid (W1.heap[w.heap.size + 1]? = some (.cells zeroX 26 (0, 0))) := hid (by rw [← hW1]; exact at_2 _ _ _)
  clear hW1
  obtain ⟨⟨op, ⟨vt, vn, vs, vb⟩, tab, name, tt, cc, nt, st⟩, roa, rn, rc⟩ := r
  have q0 : ((n : Int) != (n : Int)) = false := by simp
  unfold XR.val Sv.val at *
  go_enter Tryz.func15, Tryz.ntmps15
  go_upto_region 3 with fail
  rw [HW1.out]
  go_wp2_with (first | (guard_target =~ wpList _ _ _ (Oper.mk _ (Op.load 26 _) _ _ _ _ :: _) _ _; refine wpList_load_row rfl 26 _ rfl w.heap.size rfl 26 (XR.cells ⟨⟨op, ⟨vt, vn, vs, vb⟩, tab, name, tt, cc, nt, st⟩, roa, rn, rc⟩) (0, 0) _ HE.out Tryz.underlying26 rfl (by kernel_rfl) ?_))
  refine (HC.out W1 HG1.out).mono ?_
  rintro e w4 ⟨r, rfl, hx, hg4⟩
  have HZ4 := hid ((hg4.block _ (lt_of_block HZ.out)).trans HZ.out)
  have HFIN : Hid (∀ W9, Go1 (w.heap.size + 1) w4 W9 → Q (.returned (.tuple #[XR.val r, .int .i64 kd, .int .i64 er])) W9) := hid (fun W9 h9 => HQ.out r _ W9 rfl ((Ex.At.of h9.size (fun b hb hl => h9.get hl (by have := lt_of_block HZ.out; have hb : W1.heap.size ≤ b := hb; omega)) hx).mono (fun b _ hb => by have := HG1.out.size; have hb : W1.heap.size ≤ b := hb; show w.heap.size ≤ b; omega)) (Go1.up (HG1.out.trans hg4) h9 (by omega)))
  clear hx hg4 HC HQ HE HW1
  go_wp2_with ((guard_target =~ wpList _ _ _ (Oper.mk _ (Op.store 26 _ _) _ _ _ _ :: _) _ _; refine st_row (ty := 26) rfl rfl (w.heap.size + 1) (XR.cells r) rfl rfl 26 _ HZ4.out (by kernel_rfl) rfl (by kernel_rfl) ?_; intro W9 hW5 gW5 zW5; skip))
  have hT := Rg.blk_cells hW5
  (try change bodyPost _ _ _ _ _ _)
  refine bodyPost_ret (v := .tuple #[XR.val r, .int .i64 kd, .int .i64 er]) (by simp [results, Tryz.results15, go_sem, XR.val, nul, hT]; try rfl) rfl ?_
  exact HFIN.out W9 gW5
end Go.Proofs.YtbeinfhgfflneaaGreat
end
