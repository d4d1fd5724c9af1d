/- row: how rows stand. -/
import Derived.Test.YtacbhkmkknicoaaDoorV1
import Derived.BigQuiet
namespace Go.Proofs.YtacbhkmkknicoaaDoor
open Go.RowKit
set_option linter.unusedSimpArgs false
set_option linter.unusedVariables false
attribute [local go_sem] Rg.leads_value Rg.leads_skip Rg.leads_enter Rg.brings_value Rg.brings_skip Rg.brings_enter Rg.bringsG_value Rg.bringsG_enter
def cmpI (x y : Int) : Int := if x < y then -1 else if y < x then 1 else 0
theorem compareInt_eq (x y : Int) : Lib.compareInt x y = cmpI x y := by
  unfold Lib.compareInt cmpI
  first | rfl | (split <;> split <;> first | rfl | omega)
theorem isNaNb_any (x : Int) (w : World) : Calls Tryd.prog 78 #[.int .u8 x] w fun e w' => e = .returned (.bool false) ∧ w' = w := by
  go_enter Tryd.func78, Tryd.ntmps78
  go_wp2
  go_ret
  exact ⟨rfl, rfl⟩
set_option maxHeartbeats 4000000 in
set_option maxRecDepth 100000 in
theorem cmpb_any (x y : Int) (w : World) : Calls Tryd.prog 66 #[.int .u8 x, .int .u8 y] w fun e w' => e = .returned (.int .i64 (cmpI x y)) ∧ w' = w := by
  have N := isNaNb_any
  unfold cmpI
  by_cases h1 : x < y
  · have q1 : decide (x < y) = true := by simpa using h1
    rw [if_pos h1]
    go_enter Tryd.func66, Tryd.ntmps66
    go_wp2_with fail
    refine (N x _).mono ?_
    rintro e w1 ⟨rfl, rfl⟩
    go_wp2_with fail
    refine (N y _).mono ?_
    rintro e w1 ⟨rfl, rfl⟩
    go_wp2
    go_ret
    exact ⟨rfl, rfl⟩
  · have q1 : decide (x < y) = false := by simpa using h1
    rw [if_neg h1]
    by_cases h2 : y < x
    · have q2 : decide (y < x) = true := by simpa using h2
      rw [if_pos h2]
      go_enter Tryd.func66, Tryd.ntmps66
      go_wp2_with fail
      refine (N x _).mono ?_
      rintro e w1 ⟨rfl, rfl⟩
      go_wp2_with fail
      refine (N y _).mono ?_
      rintro e w1 ⟨rfl, rfl⟩
      go_wp2
      go_ret
      exact ⟨rfl, rfl⟩
    · have q2 : decide (y < x) = false := by simpa using h2
      rw [if_neg h2]
      go_enter Tryd.func66, Tryd.ntmps66
      go_wp2_with fail
      refine (N x _).mono ?_
      rintro e w1 ⟨rfl, rfl⟩
      go_wp2_with fail
      refine (N y _).mono ?_
      rintro e w1 ⟨rfl, rfl⟩
      go_wp2
      go_ret
      exact ⟨rfl, rfl⟩
/-- how two values stand -/
def cmpV (a b : V) : Int := if a.t = b.t then (if a.t = 1 then cmpI a.n b.n else if a.t = 2 then Lib.compareBytes a.s.data.toList b.s.data.toList else if a.t = 3 then cmpI (trb a.b) (trb b.b) else 0) else cmpI a.t b.t
/-- how two rows stand -/
def cmpR : List V → List V → Int
  | [], [] => 0
  | [], _ :: _ => -1
  | _ :: _, [] => 1
  | a :: r, b :: s => if cmpV a b = 0 then cmpR r s else cmpV a b
set_option maxHeartbeats 4000000 in
set_option maxRecDepth 100000 in
theorem cmpV_any (x y : V) (w : World) : Calls Tryd.prog 52 #[x.val, y.val] w fun e w' => e = .returned (.int .i64 (cmpV x y)) ∧ Gr w w' := by
  obtain ⟨t, n, s, b⟩ := x
  obtain ⟨t', n', s', b'⟩ := y
  obtain ⟨R, hR⟩ : ∃ R, cmpV ⟨t, n, s, b⟩ ⟨t', n', s', b'⟩ = R := ⟨_, rfl⟩
  rw [hR]
  have CI := fun (x y : Int) (W : World) => Tryd.cmp_Compare_int x y W
  simp only [compareInt_eq] at CI
  have CS := fun (W : World) => Tryd.strings_Compare s s' W
  unfold cmpV at hR
  simp only at hR
  unfold V.val
  simp only
  by_cases h1 : t = t'
  · subst h1
    rw [if_pos rfl] at hR
    by_cases e1 : t = 1
    · subst e1
      rw [if_pos rfl] at hR
      have C := CI n n'
      rw [hR] at C
      clear hR CI CS
      go_enter Tryd.func52, Tryd.ntmps52
      go_wp2_with fail
      refine (C _).mono ?_
      rintro e w1 ⟨rfl, rfl⟩
      go_wp2
      go_ret
      exact ⟨rfl, ((Gr.refl _).alloc _).alloc _⟩
    · rw [if_neg e1] at hR
      have q1 : (t == 1) = false := by simpa using e1
      by_cases e2 : t = 2
      · subst e2
        rw [if_pos rfl] at hR
        rw [hR] at CS
        clear hR CI e1 q1
        go_enter Tryd.func52, Tryd.ntmps52
        go_wp2_with fail
        refine (CS _).mono ?_
        rintro e w1 ⟨rfl, rfl⟩
        go_wp2
        go_ret
        exact ⟨rfl, ((Gr.refl _).alloc _).alloc _⟩
      · rw [if_neg e2] at hR
        have q2 : (t == 2) = false := by simpa using e2
        by_cases e3 : t = 3
        · subst e3
          rw [if_pos rfl] at hR
          have T1 := fun W => truth_any b W
          have T2 := fun W => truth_any b' W
          generalize trb b = tb at *
          generalize trb b' = tb' at *
          have C := fun W => cmpb_any tb tb' W
          rw [hR] at C
          clear hR CI CS e1 e2 q1 q2
          go_enter Tryd.func52, Tryd.ntmps52
          have GT1 : ∀ W, Calls Tryd.prog 67 #[.bool b] W fun e w' => e = .returned (.int .u8 tb) ∧ Gr W w' := fun W => (T1 W).mono fun e w' ⟨h1, h2⟩ => ⟨h1, h2 ▸ Gr.refl _⟩
          have GT2 : ∀ W, Calls Tryd.prog 67 #[.bool b'] W fun e w' => e = .returned (.int .u8 tb') ∧ Gr W w' := fun W => (T2 W).mono fun e w' ⟨h1, h2⟩ => ⟨h1, h2 ▸ Gr.refl _⟩
          have GC : ∀ W, Calls Tryd.prog 66 #[.int .u8 tb, .int .u8 tb'] W fun e w' => e = .returned (.int .i64 R) ∧ Gr W w' := fun W => (C W).mono fun e w' ⟨h1, h2⟩ => ⟨h1, h2 ▸ Gr.refl _⟩
          have h0 : Gr w ((w.alloc (.cells #[.int .i64 3, .int .i64 n, .string s, .bool b] 32)).alloc (.cells #[.int .i64 3, .int .i64 n', .string s', .bool b'] 32)) := ((Gr.refl _).alloc _).alloc _
          clear T1 T2 C
          go_upto_region 9 with (fail)
          refine Rg.region_text 7 (Below.drew (Below.refl _ _)) (by kernel_rfl) (by kernel_rfl) (fun _ _ d _ _ h => by cases d <;> exact h) ?_
          simp only [List.append_eq, List.cons_append, List.nil_append, List.take_succ_cons, List.take_zero, List.drop_succ_cons, List.drop_zero]
          repeat (first
              | (refine Rg.wpDets_skip (by rfl) ?_; simp only [Act.put, List.setIfInBounds_toArray, List.set_cons_zero, List.set_cons_succ])
              | (refine Rg.wpDets_step ?_ (by rfl) (fun w hS => ?_) ?_
                 rotate_left
                 · have hc := Gr.cells hS
                   have hf := Gr.frees hS
                   go_simp
                   first
                   | (refine ⟨?_, Below.refl _ _⟩; with_reducible rfl)
                   | ((with_reducible refine (GT1 _).mono ?_); rintro e w' ⟨rfl, hg⟩; refine ⟨?_, hg⟩; with_reducible rfl)
                   | ((with_reducible refine (GT2 _).mono ?_); rintro e w' ⟨rfl, hg⟩; refine ⟨?_, hg⟩; with_reducible rfl)
                   | ((with_reducible refine (GC _).mono ?_); rintro e w' ⟨rfl, hg⟩; refine ⟨?_, hg⟩; with_reducible rfl)
                 simp only [Act.put, List.setIfInBounds_toArray, List.set_cons_zero, List.set_cons_succ]))
          refine Rg.wpDets_nil ?_
          refine Rg.wpFlts_nil ?_
          refine Rg.wpLays_nil ?_
          intro w1 hK
          have hg : Gr _ w1 := hK.up
          have hc := Gr.cells hg
          have hf := Gr.frees hg
          have hz := Gr.size hg
          try simp only [World.size_alloc, World.size_setCell, World.size_drew] at hz
          try have : 0 < w1.heap.size := by omega
          try have : w.heap.size < w1.heap.size := by omega
          try have : w.heap.size + 1 < w1.heap.size := by omega
          try have : w.heap.size + 1 + 1 < w1.heap.size := by omega
          try have : w.heap.size + 1 + 1 + 1 < w1.heap.size := by omega
          have HG := hid (h0.trans hg)
          clear GT1 GT2 GC h0
          go_wp2
          go_ret
          exact ⟨rfl, HG.out⟩
        · rw [if_neg e3] at hR
          have q3 : (t == 3) = false := by simpa using e3
          subst hR
          clear CI CS e1 e2 e3
          go_enter Tryd.func52, Tryd.ntmps52
          go_wp2
          go_ret
          exact ⟨rfl, ((Gr.refl _).alloc _).alloc _⟩
  · rw [if_neg h1] at hR
    have q1 : (t == t') = false := by simpa using h1
    have q2 : (t != t') = true := by simpa using h1
    have C := CI t t'
    rw [hR] at C
    clear hR CI CS h1
    go_enter Tryd.func52, Tryd.ntmps52
    go_wp2_with fail
    refine (C _).mono ?_
    rintro e w1 ⟨rfl, rfl⟩
    go_wp2
    go_ret
    exact ⟨rfl, ((Gr.refl _).alloc _).alloc _⟩
end Go.Proofs.YtacbhkmkknicoaaDoor
