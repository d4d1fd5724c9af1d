/- plan: ahead. -/
import Derived.Test.YtemhfaknmagebaaH2
import Derived.Test.YtemhfaknmagebaaRt
import Derived.Test.YtemhfaknmagebaaGrow
namespace Go.Proofs.Ytemhfaknmagebaa
open Go.RowKit
set_option linter.unusedSimpArgs false
set_option linter.unusedVariables false
attribute [local go_sem] Rg.leads_value Rg.leads_skip Rg.leads_enter Rg.brings_value Rg.brings_skip Rg.brings_enter
theorem of_tab (p q : Int) (w : World) : Calls Try.prog 22 #[.agg #[.int .i64 p, .int .i64 q]] w fun e w' => e = .returned (.int .i64 p) ∧ Gr w w' := by
  go_enter Try.func22, Try.ntmps22
  go_wp2
  go_ret
  exact ⟨rfl, (Gr.refl w).alloc _⟩
theorem of_by (p q : Int) (w : World) : Calls Try.prog 23 #[.agg #[.int .i64 p, .int .i64 q]] w fun e w' => e = .returned (.int .i64 q) ∧ Gr w w' := by
  go_enter Try.func23, Try.ntmps23
  go_wp2
  go_ret
  exact ⟨rfl, (Gr.refl w).alloc _⟩
theorem diff_tab (p q p' q' : Int) (g : Nat) (w : World) (hc : w.cell? ⟨g, 0, none⟩ = some (.func (.func 22) #[] #[])) :
    Calls Try.prog 21 #[.agg #[.int .i64 p, .int .i64 q], .agg #[.int .i64 p', .int .i64 q'], .pointer (some ⟨g, 0, none⟩)] w fun e w' => (∃ d, e = .returned (.int .i64 d)) ∧ Gr w w' := by
  have hg0 := lt_of_cell hc
  have hg1 : g < w.heap.size + 1 := by omega
  have hg2 : g < w.heap.size + 1 + 1 := by omega
  have hcc := hc
  have T1 := fun W => of_tab p q W
  have T2 := fun W => of_tab p' q' W
  go_enter Try.func21, Try.ntmps21
  go_wp2_with fail
  refine Rg.region_text 7 (Below.drew (Below.refl _ _)) (by kernel_rfl) (by kernel_rfl) (fun _ _ d _ _ h => by cases d <;> exact h) ?_
  simp only [List.append_eq, List.cons_append, List.nil_append, List.take_succ_cons, List.take_zero, List.drop_succ_cons, List.drop_zero]
  repeat (first
      | (refine Rg.wpDets_skip (by rfl) ?_; simp only [Act.put, List.setIfInBounds_toArray, List.set_cons_zero, List.set_cons_succ])
      | (refine Rg.wpDets_step ?_ (by rfl) (fun w hS => ?_) ?_
         rotate_left
         · have hc := Gr.cells hS
           have hf := Gr.frees hS
           go_simp
           first
           | (refine ⟨?_, Below.refl _ _⟩; with_reducible rfl)
           | ((with_reducible refine (T1 _).mono ?_); rintro e w' ⟨rfl, hg⟩; refine ⟨?_, hg⟩; with_reducible rfl)
           | ((with_reducible refine (T2 _).mono ?_); rintro e w' ⟨rfl, hg⟩; refine ⟨?_, hg⟩; with_reducible rfl)
         simp only [Act.put, List.setIfInBounds_toArray, List.set_cons_zero, List.set_cons_succ]))
  refine Rg.wpDets_nil ?_
  refine Rg.wpFlts_nil ?_
  refine Rg.wpLays_nil ?_
  intro w' hK
  have hg : Gr _ w' := hK.up
  have hc := hg.cells
  have hf := hg.frees
  have hz := hg.size
  try simp only [World.size_alloc, World.size_setCell, World.size_drew] at hz
  try have : 0 < w'.heap.size := by omega
  try have : w.heap.size < w'.heap.size := by omega
  try have : w.heap.size + 1 < w'.heap.size := by omega
  try have : w.heap.size + 1 + 1 < w'.heap.size := by omega
  try have : w.heap.size + 1 + 1 + 1 < w'.heap.size := by omega
  go_wp2
  go_ret
  exact ⟨⟨_, rfl⟩, (((Gr.refl _).alloc _).alloc _).trans hK.up⟩
theorem diff_by (p q p' q' : Int) (g : Nat) (w : World) (hc : w.cell? ⟨g, 0, none⟩ = some (.func (.func 23) #[] #[])) :
    Calls Try.prog 21 #[.agg #[.int .i64 p, .int .i64 q], .agg #[.int .i64 p', .int .i64 q'], .pointer (some ⟨g, 0, none⟩)] w fun e w' => (∃ d, e = .returned (.int .i64 d)) ∧ Gr w w' := by
  have hg0 := lt_of_cell hc
  have hg1 : g < w.heap.size + 1 := by omega
  have hg2 : g < w.heap.size + 1 + 1 := by omega
  have hcc := hc
  have T1 := fun W => of_by p q W
  have T2 := fun W => of_by p' q' W
  go_enter Try.func21, Try.ntmps21
  go_wp2_with fail
  refine Rg.region_text 7 (Below.drew (Below.refl _ _)) (by kernel_rfl) (by kernel_rfl) (fun _ _ d _ _ h => by cases d <;> exact h) ?_
  simp only [List.append_eq, List.cons_append, List.nil_append, List.take_succ_cons, List.take_zero, List.drop_succ_cons, List.drop_zero]
  repeat (first
      | (refine Rg.wpDets_skip (by rfl) ?_; simp only [Act.put, List.setIfInBounds_toArray, List.set_cons_zero, List.set_cons_succ])
      | (refine Rg.wpDets_step ?_ (by rfl) (fun w hS => ?_) ?_
         rotate_left
         · have hc := Gr.cells hS
           have hf := Gr.frees hS
           go_simp
           first
           | (refine ⟨?_, Below.refl _ _⟩; with_reducible rfl)
           | ((with_reducible refine (T1 _).mono ?_); rintro e w' ⟨rfl, hg⟩; refine ⟨?_, hg⟩; with_reducible rfl)
           | ((with_reducible refine (T2 _).mono ?_); rintro e w' ⟨rfl, hg⟩; refine ⟨?_, hg⟩; with_reducible rfl)
         simp only [Act.put, List.setIfInBounds_toArray, List.set_cons_zero, List.set_cons_succ]))
  refine Rg.wpDets_nil ?_
  refine Rg.wpFlts_nil ?_
  refine Rg.wpLays_nil ?_
  intro w' hK
  have hg : Gr _ w' := hK.up
  have hc := hg.cells
  have hf := hg.frees
  have hz := hg.size
  try simp only [World.size_alloc, World.size_setCell, World.size_drew] at hz
  try have : 0 < w'.heap.size := by omega
  try have : w.heap.size < w'.heap.size := by omega
  try have : w.heap.size + 1 < w'.heap.size := by omega
  try have : w.heap.size + 1 + 1 < w'.heap.size := by omega
  try have : w.heap.size + 1 + 1 + 1 < w'.heap.size := by omega
  go_wp2
  go_ret
  exact ⟨⟨_, rfl⟩, (((Gr.refl _).alloc _).alloc _).trans hK.up⟩
theorem PAt.get {w : World} {oa : Option Addr} {l : List (Int × Int)} (h : PAt w oa l) (k : Nat) (hk : k < l.length) : ∃ b off x y, oa = some ⟨b, off, none⟩ ∧ w.cell? ⟨b, off + k * 2, none⟩ = some (.int .i64 x) ∧ w.cell? ⟨b, off + k * 2 + 1, none⟩ = some (.int .i64 y) := by
  rcases h with rfl | ⟨b, off, h, hr⟩
  · simp at hk
  · exact ⟨b, off, _, _, h, (hr.2 k hk).1, (hr.2 k hk).2⟩
set_option maxHeartbeats 2000000 in
set_option maxRecDepth 100000 in
theorem cmp_any (oa ob : Option Addr) (c c' : Nat) (l m : List (Int × Int)) (g : Nat) (w : World) (hl : l.length ≤ 1000000) (hm : m.length ≤ 1000000) (ha : PAt w oa l) (hb : PAt w ob m)
    (D : ∀ p q p' q' W, Gr w W → Calls Try.prog 21 #[.agg #[.int .i64 p, .int .i64 q], .agg #[.int .i64 p', .int .i64 q'], .pointer (some ⟨g, 0, none⟩)] W fun e w' => (∃ d, e = .returned (.int .i64 d)) ∧ Gr W w') :
    Calls Try.prog 20 #[.slice oa l.length c, .slice ob m.length c', .func (.func 21) #[] #[.pointer (some ⟨g, 0, none⟩)]] w fun e w' => (∃ d, e = .returned (.int .i64 d)) ∧ Gr w w' := by
  have HD := hid D
  clear D
  go_enter Try.func20, Try.ntmps20
  go_wp2_with fail
  go_loopw [13] (fun i wr => ∃ k : Nat, i = .int .i64 k ∧ k ≤ l.length ∧ Gr w wr) (fun i _ => l.length - (intOf i).toNat)
  case atStart => exact ⟨0, rfl, Nat.zero_le _, Gr.refl _⟩
  case round =>
    obtain ⟨k, rfl, hk, hg⟩ := hrel
    rename_i wr _
    by_cases hlt : k < l.length
    · obtain ⟨b, off, x, y, rfl, c0, c1⟩ := (ha.keep hg).get k hlt
      have hbb := lt_of_cell c0
      by_cases hmk : m.length ≤ k
      · have g1 : decide ((m.length : Int) ≤ (k : Int)) = true := by simp; omega
        clear hb ha
        go_wp2
        go_ret
        exact ⟨⟨_, rfl⟩, hg.alloc _⟩
      · have g1 : decide ((m.length : Int) ≤ (k : Int)) = false := by simp; omega
        have hmk2 : k < m.length := by omega
        obtain ⟨b', off', x', y', rfl, d0, d1⟩ := (hb.keep hg).get k hmk2
        have hbb' := lt_of_cell d0
        clear hb ha
        go_wp2_with fail
        refine (HD.out _ _ _ _ _ ?_).mono ?_
        · exact (hg.alloc _).alloc _
        rintro e w1 ⟨⟨d, rfl⟩, h1⟩
        have hg1 := ((hg.alloc _).alloc _).trans h1
        by_cases hd : d = 0
        · subst hd
          go_wp2
          exact ⟨⟨k + 1, by go_num, by omega, hg1⟩, by simp [intOf]; omega⟩
        · have g2 : (d != 0) = true := by simpa using hd
          go_wp2
          go_ret
          exact ⟨⟨_, rfl⟩, hg1⟩
    · obtain rfl : k = l.length := by omega
      by_cases h1 : l.length < m.length
      · go_wp2
        go_ret
        exact ⟨⟨_, rfl⟩, hg⟩
      · go_wp2
        go_ret
        exact ⟨⟨_, rfl⟩, hg⟩
theorem by_tab (oa ob : Option Addr) (c c' : Nat) (l m : List (Int × Int)) (ga gb : Nat) (w : World) (hl : l.length ≤ 1000000) (hm : m.length ≤ 1000000) (ha : PAt w oa l) (hb : PAt w ob m)
    (ca : w.cell? ⟨ga, 0, none⟩ = some (.slice oa l.length c)) (cb : w.cell? ⟨gb, 0, none⟩ = some (.slice ob m.length c')) :
    Calls Try.prog 19 #[.func (.func 22) #[] #[], .pointer (some ⟨ga, 0, none⟩), .pointer (some ⟨gb, 0, none⟩)] w fun e w' => (∃ d, e = .returned (.int .i64 d)) ∧ Gr w w' := by
  have ha0 := lt_of_cell ca
  have hb0 := lt_of_cell cb
  have ha1 : ga < w.heap.size + 1 := by omega
  have hb1 : gb < w.heap.size + 1 := by omega
  have C := fun g W hW D => cmp_any oa ob c c' l m g W hl hm (ha.keep hW) (hb.keep hW) D
  have HC := hid C
  clear C ha hb
  go_enter Try.func19, Try.ntmps19
  go_wp2_with fail
  refine (HC.out _ _ ?_ ?_).mono ?_
  · exact (Gr.refl w).alloc _
  · intro p q p' q' W hW
    exact diff_tab p q p' q' _ W (hW.keep (by go_simp))
  rintro e w1 ⟨⟨d, rfl⟩, h1⟩
  go_wp2
  go_ret
  exact ⟨⟨_, rfl⟩, ((Gr.refl w).alloc _).trans h1⟩
theorem by_by (oa ob : Option Addr) (c c' : Nat) (l m : List (Int × Int)) (ga gb : Nat) (w : World) (hl : l.length ≤ 1000000) (hm : m.length ≤ 1000000) (ha : PAt w oa l) (hb : PAt w ob m)
    (ca : w.cell? ⟨ga, 0, none⟩ = some (.slice oa l.length c)) (cb : w.cell? ⟨gb, 0, none⟩ = some (.slice ob m.length c')) :
    Calls Try.prog 19 #[.func (.func 23) #[] #[], .pointer (some ⟨ga, 0, none⟩), .pointer (some ⟨gb, 0, none⟩)] w fun e w' => (∃ d, e = .returned (.int .i64 d)) ∧ Gr w w' := by
  have ha0 := lt_of_cell ca
  have hb0 := lt_of_cell cb
  have ha1 : ga < w.heap.size + 1 := by omega
  have hb1 : gb < w.heap.size + 1 := by omega
  have C := fun g W hW D => cmp_any oa ob c c' l m g W hl hm (ha.keep hW) (hb.keep hW) D
  have HC := hid C
  clear C ha hb
  go_enter Try.func19, Try.ntmps19
  go_wp2_with fail
  refine (HC.out _ _ ?_ ?_).mono ?_
  · exact (Gr.refl w).alloc _
  · intro p q p' q' W hW
    exact diff_by p q p' q' _ W (hW.keep (by go_simp))
  rintro e w1 ⟨⟨d, rfl⟩, h1⟩
  go_wp2
  go_ret
  exact ⟨⟨_, rfl⟩, ((Gr.refl w).alloc _).trans h1⟩
theorem ahead_any (oa ob : Option Addr) (c c' : Nat) (l m : List (Int × Int)) (w : World) (hl : l.length ≤ 1000000) (hm : m.length ≤ 1000000) (ha : PAt w oa l) (hb : PAt w ob m) :
    Calls Try.prog 13 #[.slice oa l.length c, .slice ob m.length c'] w fun e w' => (∃ b, e = .returned (.bool b)) ∧ Gr w w' := by
  have T := fun ga gb W hW => by_tab oa ob c c' l m ga gb W hl hm (ha.keep hW) (hb.keep hW)
  have B := fun ga gb W hW => by_by oa ob c c' l m ga gb W hl hm (ha.keep hW) (hb.keep hW)
  have HT := hid T
  have HB := hid B
  clear T B ha hb
  go_enter Try.func13, Try.ntmps13
  go_wp2_with fail
  refine (HT.out _ _ _ ?_ ?_ ?_).mono ?_
  · exact ((Gr.refl w).alloc _).alloc _
  · go_simp
  · go_simp
  rintro e w1 ⟨⟨d, rfl⟩, h1⟩
  have hg1 := (((Gr.refl w).alloc (.cells #[.slice oa l.length c] 27)).alloc (.cells #[.slice ob m.length c'] 27)).trans h1
  have k0 : w1.cell? ⟨w.heap.size, 0, none⟩ = some (.slice oa l.length c) := h1.keep (by go_simp)
  have k1 : w1.cell? ⟨w.heap.size + 1, 0, none⟩ = some (.slice ob m.length c') := h1.keep (by go_simp)
  by_cases hd : d = 0
  · subst hd
    go_wp2_with fail
    refine (HB.out _ _ _ hg1 k0 k1).mono ?_
    rintro e w2 ⟨⟨d, rfl⟩, h2⟩
    go_wp2
    go_ret
    exact ⟨⟨_, rfl⟩, hg1.trans h2⟩
  · have g2 : (d != 0) = true := by simpa using hd
    go_wp2
    go_ret
    exact ⟨⟨_, rfl⟩, hg1⟩
end Go.Proofs.Ytemhfaknmagebaa
