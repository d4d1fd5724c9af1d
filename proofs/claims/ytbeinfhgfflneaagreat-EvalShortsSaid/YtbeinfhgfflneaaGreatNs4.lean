/- Texts of this claim, put together: walks of functions and plain laws, of no condition. -/
import Derived.Test.YtbeinfhgfflneaaGreatNs3
import Derived.Deep.MidRow
import Derived.Defers
section
namespace Go.Proofs.YtbeinfhgfflneaaGreat
open Go.RowKit
set_option linter.unusedSimpArgs false
set_option linter.unusedVariables false
attribute [local go_sem] Rg.leads_value Rg.leads_skip Rg.leads_enter Rg.brings_value Rg.brings_skip Rg.brings_enter Rg.bringsG_value Rg.bringsG_enter Rg.once_normal Rg.once_exit Rg.once_ret Rg.once_panic Rg.once_goto
def FiRel (l : List V) (R : V × Int) (n : Nat) (W0 : World) (s9 : Value) (wr : World) : Prop := ∃ (k : Nat) (out : V), s9 = .int .i64 (k : Int) ∧ k ≤ l.length ∧ Go1 (n + 1) W0 wr ∧ wr.heap[n + 1]? = some (.cells out.cells 23 (0, 0)) ∧ firstV (l.drop k) out = R
theorem firstV_at (l : List V) (k : Nat) (h : k < l.length) (out : V) : firstV (l.drop k) out = (if (l[k]).t == 0 then firstV (l.drop (k + 1)) out else if out.t == 0 then firstV (l.drop (k + 1)) l[k] else if (l[k]).t != out.t then (nul, 160) else firstV (l.drop (k + 1)) out) := by
  rw [List.drop_eq_getElem_cons h]
  rfl
theorem fi_dec {k m : Nat} (h : k < m) : decide ((k : Int) < (m : Int)) = true := by rw [decide_eq_true_iff]; omega
theorem fi_dec0 {k m : Nat} (h : ¬ k < m) : decide ((k : Int) < (m : Int)) = false := by rw [decide_eq_false_iff_not]; omega
theorem fi_decn0 {k m : Nat} (h : ¬ k < m) : decide (k < m) = false := by rw [decide_eq_false_iff_not]; omega
theorem fi_lt {k m : Nat} (h : k < m) : (k : Int) < (m : Int) := by omega
theorem fi_wrap {k m : Nat} (h : k < m) (hb : m ≤ 2000000) : wrap64 ((k : Int) + 1) = (k : Int) + 1 := by unfold wrap64; omega
set_option maxHeartbeats 16000000 in
set_option maxRecDepth 100000 in
theorem first_full (oa : Option Addr) (c : Nat) (l : List V) (w : World) (hat : VAt w oa l) (hb : l.length ≤ 2000000) : Calls Tryz.prog 92 #[.slice oa l.length c] w (Vp (firstV l nul) w) := by
  obtain ⟨R, hR⟩ : ∃ R, firstV l nul = R := ⟨_, rfl⟩
  rw [hR]
  have HAT := hid hat
  obtain ⟨W0, hW0⟩ : ∃ W0, (w.alloc (.cells #[.int .i64 0, .int .i64 0, .string ⟨#[]⟩, .bool false] 23)).alloc (.cells #[.int .i64 0, .int .i64 0, .string ⟨#[]⟩, .bool false] 23) = W0 := ⟨_, rfl⟩
  have HG0 : Hid (Gr w W0) := hid (by rw [← hW0]; exact ((Gr.refl w).alloc _).alloc _)
  have HZ0 : Hid (W0.heap[w.heap.size]? = some (.cells #[.int .i64 0, .int .i64 0, .string ⟨#[]⟩, .bool false] 23 (0, 0))) := hid (by rw [← hW0]; exact (((Gr.refl _).alloc _).block _ (by rw [World.size_alloc]; exact Nat.lt_succ_self _)).trans (alloc_at _ _))
  have HS0 : Hid (FiRel l R w.heap.size W0 (.int .i64 0) W0) := hid ⟨0, nul, rfl, Nat.zero_le _, Go1.refl _ _, by rw [← hW0]; exact alloc_two _ _ _, hR⟩
  have HW0 := hid hW0
  clear hR hat hW0
  unfold Vp
  go_enter Tryz.func92, Tryz.ntmps92
  go_wp2_with fail
  rw [HW0.out]
  clear HW0
  go_loopw [9] (fun s9 wr => FiRel l R w.heap.size W0 s9 wr) (fun s9 _ => l.length - (intOf s9).toNat)
  · exact HS0.out
  · clear HS0
    obtain ⟨k, out, rfl, hk, hg1, hO, hE⟩ := hrel
    have HGo := hid hg1
    have HO := hid hO
    have HG := hid (HG0.out.grown hg1 (fun i e => by cases e; exact Nat.le_succ _))
    have HZ : Hid (wr.heap[w.heap.size]? = some (.cells #[.int .i64 0, .int .i64 0, .string ⟨#[]⟩, .bool false] 23 (0, 0))) := hid ((hg1.get (lt_blk HZ0.out) (Nat.ne_of_lt (Nat.lt_succ_self _))).trans HZ0.out)
    have HE := hid hE
    clear hg1 hO hE HG0 HZ0
    by_cases hkn : k < l.length
    · have t1 : decide ((k : Int) < (l.length : Int)) = true := fi_dec hkn
      have gk : (k : Int) < (l.length : Int) := fi_lt hkn
      have HWK := hid (fi_wrap hkn hb)
      have HMS := hid (in_ms hkn)
      obtain ⟨b, off, rfl, v0, v1, v2, v3⟩ := v_get (HAT.out.keep HG.out) k hkn
      have hbl := lt_of_cell v0
      have hE2 := HE.out
      rw [firstV_at l k hkn] at hE2
      generalize l[k] = v at *
      obtain ⟨tv, nv, sv, bv⟩ := v
      obtain ⟨tq, nq, sq, bq⟩ := out
      obtain ⟨x1, t2⟩ : ∃ x, (tv == 0) = x := ⟨_, rfl⟩
      obtain ⟨x2, t3⟩ : ∃ x, (tq == 0) = x := ⟨_, rfl⟩
      obtain ⟨x3, t4⟩ : ∃ x, (tv != tq) = x := ⟨_, rfl⟩
      simp only [t2, t3, t4] at hE2
      have HE2 := hid hE2
      have HAL := hid (alloc_at wr (.cells zeroV 23))
      have HGB := hid (fun W5 h => gr_boxE (w1 := wr) (o := .cells zeroV 23) (W := W5) h)
      clear hE2 HE hk HAT
      (try unfold V.cells at *)
      cases x1 with
      | true =>
        have HN : Hid (firstV (l.drop (k + 1)) ⟨tq, nq, sq, bq⟩ = R) := hid HE2.out
        clear HE2
        go_wp2_with (guard_target =~ wpList _ _ _ (Oper.mk _ (Op.store 23 (Operand.tmp 6) _) _ _ _ _ :: _) _ _; refine st_row (ty := 23) rfl rfl wr.heap.size #[.int .i64 tv, .int .i64 nv, .string sv, .bool bv] rfl rfl 23 _ HAL.out (by kernel_rfl) rfl (by kernel_rfl) ?_; intro W5 hW5 gW5 zW5; have hg5 := HGB.out W5 gW5; have HG5 := hid hg5; have HW5 := hid hW5; have c50 : W5.cell? ⟨wr.heap.size, 0, none⟩ = some (.int .i64 tv) := Rg.blk_cells hW5 0; have o50 : W5.cell? ⟨w.heap.size + 1, 0, none⟩ = some (.int .i64 tq) := hg5.keep (Rg.blk_cells HO.out 0); clear gW5 zW5 hW5 hg5)
        exact ⟨⟨k + 1, ⟨tq, nq, sq, bq⟩, in_next, hkn, HGo.out.trans (.of HG5.out), (HG5.out.block _ (lt_blk HO.out)).trans HO.out, HN.out⟩, HMS.out⟩
      | false =>
        cases x2 with
        | true =>
          have HN : Hid (firstV (l.drop (k + 1)) ⟨tv, nv, sv, bv⟩ = R) := hid HE2.out
          clear HE2
          go_wp2_with (first | (guard_target =~ wpList _ _ _ (Oper.mk _ (Op.store 23 (Operand.tmp 6) _) _ _ _ _ :: _) _ _; refine st_row (ty := 23) rfl rfl wr.heap.size #[.int .i64 tv, .int .i64 nv, .string sv, .bool bv] rfl rfl 23 _ HAL.out (by kernel_rfl) rfl (by kernel_rfl) ?_; intro W5 hW5 gW5 zW5; have hg5 := HGB.out W5 gW5; have HG5 := hid hg5; have HW5 := hid hW5; have c50 : W5.cell? ⟨wr.heap.size, 0, none⟩ = some (.int .i64 tv) := Rg.blk_cells hW5 0; have o50 : W5.cell? ⟨w.heap.size + 1, 0, none⟩ = some (.int .i64 tq) := hg5.keep (Rg.blk_cells HO.out 0); clear gW5 zW5 hW5 hg5) | (guard_target =~ wpList _ _ _ (Oper.mk _ (Op.load 23 (Operand.tmp 6)) _ _ _ _ :: _) _ _; refine wpList_load_row rfl 23 _ rfl wr.heap.size rfl 23 #[.int .i64 tv, .int .i64 nv, .string sv, .bool bv] (0, 0) _ HW5.out Tryz.underlying23 rfl (by kernel_rfl) ?_) | (guard_target =~ wpList _ _ _ (Oper.mk _ (Op.store 23 (Operand.tmp 4) _) _ _ _ _ :: _) _ _; refine st_row (ty := 23) rfl rfl (w.heap.size + 1) #[.int .i64 tv, .int .i64 nv, .string sv, .bool bv] rfl rfl 23 _ ((HG5.out.block _ (lt_blk HO.out)).trans HO.out) (by kernel_rfl) rfl (by kernel_rfl) ?_; intro W9 hW9 gW9 zW9; have HW9 := hid hW9; have HG9 := hid gW9; clear gW9 zW9 hW9))
          exact ⟨⟨k + 1, ⟨tv, nv, sv, bv⟩, in_next, hkn, (HGo.out.trans (.of HG5.out)).trans HG9.out, HW9.out, HN.out⟩, HMS.out⟩
        | false =>
          cases x3 with
          | true =>
            obtain rfl : R = (nul, 160) := HE2.out.symm
            clear HE2 HMS
            go_wp2_with (guard_target =~ wpList _ _ _ (Oper.mk _ (Op.store 23 (Operand.tmp 6) _) _ _ _ _ :: _) _ _; refine st_row (ty := 23) rfl rfl wr.heap.size #[.int .i64 tv, .int .i64 nv, .string sv, .bool bv] rfl rfl 23 _ HAL.out (by kernel_rfl) rfl (by kernel_rfl) ?_; intro W5 hW5 gW5 zW5; have hg5 := HGB.out W5 gW5; have c50 : W5.cell? ⟨wr.heap.size, 0, none⟩ = some (.int .i64 tv) := Rg.blk_cells hW5 0; have o50 : W5.cell? ⟨w.heap.size + 1, 0, none⟩ = some (.int .i64 tq) := hg5.keep (Rg.blk_cells HO.out 0); have hG := HG.out.trans hg5; have hZ5 := (hg5.block _ (lt_blk HZ.out)).trans HZ.out; have cZ := Rg.blk_cells hZ5; have fZ := Rg.blk_free hZ5; have lZ := lt_blk hZ5; clear gW5 zW5 hW5 hg5 hZ5 HG HGo HO HZ HAL HGB)
            all_goals
              (try (go_step3; (try simp only [Exit.then]); (try change Rg.once _ _ _ _ _ _); rw [Rg.once_goto]; go_wp2))
              (try rw [Rg.once_ret])
              (try rw [Exit.noGoto_ret])
              (try change bodyPost _ _ _ _ _ _)
              first
              | (go_returns; refine ⟨?_, ?_⟩)
              | (refine bodyPost_ret (by simp [results, Tryz.results92, go_sem, *]; try rfl) rfl ⟨?_, ?_⟩)
              rotate_left
              · repeat' (first | exact Gr.refl _ | exact Nat.le_refl _ | exact Nat.le_add_right _ _ | refine Gr.setCell ?_ ?_ _ | refine Gr.alloc ?_ _ | refine Gr.drew ?_ | refine Gr.trans ?_ (by assumption) | omega | (dsimp only; omega))
            all_goals rfl
          | false =>
            have HN : Hid (firstV (l.drop (k + 1)) ⟨tq, nq, sq, bq⟩ = R) := hid HE2.out
            clear HE2
            go_wp2_with (guard_target =~ wpList _ _ _ (Oper.mk _ (Op.store 23 (Operand.tmp 6) _) _ _ _ _ :: _) _ _; refine st_row (ty := 23) rfl rfl wr.heap.size #[.int .i64 tv, .int .i64 nv, .string sv, .bool bv] rfl rfl 23 _ HAL.out (by kernel_rfl) rfl (by kernel_rfl) ?_; intro W5 hW5 gW5 zW5; have hg5 := HGB.out W5 gW5; have HG5 := hid hg5; have HW5 := hid hW5; have c50 : W5.cell? ⟨wr.heap.size, 0, none⟩ = some (.int .i64 tv) := Rg.blk_cells hW5 0; have o50 : W5.cell? ⟨w.heap.size + 1, 0, none⟩ = some (.int .i64 tq) := hg5.keep (Rg.blk_cells HO.out 0); clear gW5 zW5 hW5 hg5)
            exact ⟨⟨k + 1, ⟨tq, nq, sq, bq⟩, in_next, hkn, HGo.out.trans (.of HG5.out), (HG5.out.block _ (lt_blk HO.out)).trans HO.out, HN.out⟩, HMS.out⟩
    · have t1 : decide ((k : Int) < (l.length : Int)) = false := fi_dec0 hkn
      have t1n : decide (k < l.length) = false := fi_decn0 hkn
      obtain rfl : R = (out, 0) := by
        have h := HE.out
        rw [List.drop_eq_nil_of_le (in_end hkn)] at h
        exact h.symm
      have hG := HG.out
      have cZ := Rg.blk_cells HZ.out
      have fZ := Rg.blk_free HZ.out
      have lZ := lt_blk HZ.out
      obtain ⟨tq, nq, sq, bq⟩ := out
      (try unfold V.cells at *)
      clear HE HG HZ HGo hkn hk HAT
      go_wp2_with (guard_target =~ wpList _ _ _ (Oper.mk _ (Op.load 23 (Operand.tmp 4)) _ _ _ _ :: _) _ _; refine wpList_load_row rfl 23 _ rfl (w.heap.size + 1) rfl 23 #[.int .i64 tq, .int .i64 nq, .string sq, .bool bq] (0, 0) _ HO.out Tryz.underlying23 rfl (by kernel_rfl) ?_)
      all_goals
        (try (go_step3; (try simp only [Exit.then]); (try change Rg.once _ _ _ _ _ _); rw [Rg.once_goto]; go_wp2))
        (try rw [Rg.once_ret])
        (try rw [Exit.noGoto_ret])
        (try change bodyPost _ _ _ _ _ _)
        first
        | (go_returns; refine ⟨?_, ?_⟩)
        | (refine bodyPost_ret (by simp [results, Tryz.results92, go_sem, *]; try rfl) rfl ⟨?_, ?_⟩)
        rotate_left
        · repeat' (first | exact Gr.refl _ | exact Nat.le_refl _ | exact Nat.le_add_right _ _ | refine Gr.setCell ?_ ?_ _ | refine Gr.alloc ?_ _ | refine Gr.drew ?_ | refine Gr.trans ?_ (by assumption) | omega | (dsimp only; omega))
      all_goals rfl
end Go.Proofs.YtbeinfhgfflneaaGreat
end
section
namespace Go.Proofs.YtbeinfhgfflneaaGreat
open Go.RowKit
set_option linter.unusedSimpArgs false
set_option linter.unusedVariables false
attribute [local go_sem] Rg.leads_value Rg.leads_skip Rg.leads_enter Rg.brings_value Rg.brings_skip Rg.brings_enter Rg.bringsG_value Rg.bringsG_enter Rg.once_normal Rg.once_exit Rg.once_ret Rg.once_panic Rg.once_goto
set_option maxHeartbeats 4000000 in
set_option maxRecDepth 100000 in
theorem vcall_coal (name : ByteArray) (oa : Option Addr) (c : Nat) (l : List V) (w : World) (hat : VAt w oa l) (hb : l.length ≤ 2000000) (h1 : (name.toList == [99, 111, 97, 108, 101, 115, 99, 101]) = true) (hl : 0 < l.length) : Calls Tryz.prog 73 #[.string name, .slice oa l.length c] w (Vp (firstV l nul) w) := by
  have FC : Hid (∀ W, Gr w W → _) := hid (fun W h => first_full oa c l W (hat.keep h) hb)
  have t1 : decide ((0 : Int) < (l.length : Int)) = true := by rw [decide_eq_true_iff]; omega
  have t1n : decide (0 < l.length) = true := by rw [decide_eq_true_iff]; omega
  generalize firstV l nul = R at *
  obtain ⟨⟨tn, nn, sn, bn⟩, en⟩ := R
  clear hat hb hl
  unfold Vp pairR at *
  go_enter Tryz.func73, Tryz.ntmps73
  go_wp2_with (first | (go_at_call 92; ((with_reducible refine (FC.out _ ((Gr.refl _).alloc _)).mono ?_)); rintro e w' ⟨rfl, hg⟩; have hc := hg.cells; have hf := hg.frees; have hz := hg.size; (try simp only [World.size_alloc, World.size_setCell, World.size_drew] at hz); (try have : 0 < w'.heap.size := by omega); (try have : w.heap.size < w'.heap.size := by omega); (try have : w.heap.size + 1 < w'.heap.size := by omega); (try have : w.heap.size + 1 + 1 < w'.heap.size := by omega); (try have : w.heap.size + 1 + 1 + 1 < w'.heap.size := by omega)))
  all_goals
    (try (go_step3; (try simp only [Exit.then]); (try change Rg.once _ _ _ _ _ _); rw [Rg.once_goto]; go_wp2))
    (try rw [Rg.once_ret])
    (try rw [Exit.noGoto_ret])
    (try change bodyPost _ _ _ _ _ _)
    first
    | (go_returns; refine ⟨?_, ?_⟩)
    | (refine bodyPost_ret (by simp [results, Tryz.results73, go_sem, *]; try rfl) rfl ⟨?_, ?_⟩)
    rotate_left
    · repeat' (first | exact Gr.refl _ | exact Nat.le_refl _ | exact Nat.le_add_right _ _ | refine Gr.setCell ?_ ?_ _ | refine Gr.alloc ?_ _ | refine Gr.drew ?_ | refine Gr.trans ?_ (by assumption) | omega | (dsimp only; omega))
  all_goals rfl
set_option maxHeartbeats 4000000 in
set_option maxRecDepth 100000 in
theorem vcall_len (name : ByteArray) (oa : Option Addr) (n c : Nat) (w : World) (h1 : (name.toList == [99, 111, 97, 108, 101, 115, 99, 101] && decide (0 < n)) = false) (hl : ¬ n = 1) : Calls Tryz.prog 73 #[.string name, .slice oa n c] w (Vp (nul, 1) w) := by
  obtain ⟨x1, e1⟩ : ∃ x, (name.toList == [99, 111, 97, 108, 101, 115, 99, 101]) = x := ⟨_, rfl⟩
  obtain ⟨x2, e2⟩ : ∃ x, (name.toList == [108, 101, 110, 103, 116, 104]) = x := ⟨_, rfl⟩
  obtain ⟨x3, e3⟩ : ∃ x, (name.toList == [97, 98, 115]) = x := ⟨_, rfl⟩
  have e2' : (name.toList != [108, 101, 110, 103, 116, 104]) = !x2 := by rw [← e2]; rfl
  have e3' : (name.toList != [97, 98, 115]) = !x3 := by rw [← e3]; rfl
  obtain ⟨x4, e4⟩ : ∃ x, decide (0 < n) = x := ⟨_, rfl⟩
  have e4' : decide ((0 : Int) < (n : Int)) = x4 := by rw [← e4]; simp
  have e5 : ((n : Int) != 1) = true := by simp; omega
  rw [e1, e4] at h1
  clear hl
  unfold Vp pairR nul
  cases x1 <;> cases x4 <;> first | (exact absurd h1 (by decide)) | skip
  all_goals (cases x2 <;> cases x3)
  all_goals
    clear h1
    go_enter Tryz.func73, Tryz.ntmps73
    go_wp2
    all_goals
      (try (go_step3; (try simp only [Exit.then]); (try change Rg.once _ _ _ _ _ _); rw [Rg.once_goto]; go_wp2))
      (try rw [Rg.once_ret])
      (try rw [Exit.noGoto_ret])
      (try change bodyPost _ _ _ _ _ _)
      first
      | (go_returns; refine ⟨?_, ?_⟩)
      | (refine bodyPost_ret (by simp [results, Tryz.results73, go_sem, *]; try rfl) rfl ⟨?_, ?_⟩)
      rotate_left
      · repeat' (first | exact Gr.refl _ | exact Nat.le_refl _ | exact Nat.le_add_right _ _ | refine Gr.setCell ?_ ?_ _ | refine Gr.alloc ?_ _ | refine Gr.drew ?_ | refine Gr.trans ?_ (by assumption) | omega | (dsimp only; omega))
    all_goals rfl
set_option maxHeartbeats 4000000 in
set_option maxRecDepth 100000 in
theorem vcall_name (name : ByteArray) (oa : Option Addr) (c : Nat) (w : World) (h1 : (name.toList == [99, 111, 97, 108, 101, 115, 99, 101]) = false) (h2 : (name.toList == [108, 101, 110, 103, 116, 104]) = false) (h3 : (name.toList == [97, 98, 115]) = false) : Calls Tryz.prog 73 #[.string name, .slice oa 1 c] w (Vp (nul, 1) w) := by
  have e2' : (name.toList != [108, 101, 110, 103, 116, 104]) = true := by unfold bne; rw [h2]; rfl
  have e3' : (name.toList != [97, 98, 115]) = true := by unfold bne; rw [h3]; rfl
  unfold Vp pairR nul
  go_enter Tryz.func73, Tryz.ntmps73
  go_wp2
  all_goals
    (try (go_step3; (try simp only [Exit.then]); (try change Rg.once _ _ _ _ _ _); rw [Rg.once_goto]; go_wp2))
    (try rw [Rg.once_ret])
    (try rw [Exit.noGoto_ret])
    (try change bodyPost _ _ _ _ _ _)
    first
    | (go_returns; refine ⟨?_, ?_⟩)
    | (refine bodyPost_ret (by simp [results, Tryz.results73, go_sem, *]; try rfl) rfl ⟨?_, ?_⟩)
    rotate_left
    · repeat' (first | exact Gr.refl _ | exact Nat.le_refl _ | exact Nat.le_add_right _ _ | refine Gr.setCell ?_ ?_ _ | refine Gr.alloc ?_ _ | refine Gr.drew ?_ | refine Gr.trans ?_ (by assumption) | omega | (dsimp only; omega))
  all_goals rfl
set_option maxHeartbeats 8000000 in
set_option maxRecDepth 100000 in
theorem vcall_one (x2 : Bool) (name : ByteArray) (oa : Option Addr) (c : Nat) (a : V) (w : World) (hat : VAt w oa [a]) (ha : Bd a.n) (hs : a.s.size ≤ 9223372036854775807) (h1 : (name.toList == [99, 111, 97, 108, 101, 115, 99, 101]) = false) (h2 : (name.toList == [108, 101, 110, 103, 116, 104]) = x2) (h3 : x2 = true ∨ (name.toList == [97, 98, 115]) = true) : Calls Tryz.prog 73 #[.string name, .slice oa 1 c] w (Vp (oneV x2 a) w) := by
  have e2' : (name.toList != [108, 101, 110, 103, 116, 104]) = !x2 := by unfold bne; rw [h2]
  obtain ⟨x3, e3⟩ : ∃ x, (name.toList == [97, 98, 115]) = x := ⟨_, rfl⟩
  have e3' : (name.toList != [97, 98, 115]) = !x3 := by unfold bne; rw [e3]
  obtain ⟨b, off, rfl, v0, v1, v2, v3⟩ := v_get hat 0 (by simp)
  simp only [Nat.zero_mul, Nat.add_zero, List.getElem_cons_zero] at v0 v1 v2 v3
  have hbl := lt_of_cell v0
  have TC := fun (k : Int) (g : Nat) (W : World) (h : ∀ i, W.cell? ⟨g, i, none⟩ = a.cells[i]?) => typed1 k a g 1 W (h 0) (h 1) (h 2) (h 3)
  have NC : Hid (∀ W, _) := hid (fun W => neg_any a W ((Vl.fits_iff _).2 ha))
  have HR : Hid (oneV x2 a = if (vtypedB (if x2 then 2 else 1) [a]).1 then (if (vtypedB (if x2 then 2 else 1) [a]).2 then (nul, 0) else if x2 then (numV a.s.size, 0) else if decide (a.n < 0) then negR a else (numV a.n, 0)) else (nul, 160)) := hid rfl
  generalize oneV x2 a = R at *
  obtain ⟨tv, nv, sv, bv⟩ := a
  cases x2 with
  | false =>
    obtain rfl : x3 = true := by
      rcases h3 with h | h
      · cases h
      · rw [← e3]; exact h
    have TC : Hid (∀ g W, _) := hid (fun g W h => TC 1 g W h)
    have HR : Hid (R = if (vtypedB 1 [⟨tv, nv, sv, bv⟩]).1 then (if (vtypedB 1 [⟨tv, nv, sv, bv⟩]).2 then (nul, 0) else if decide (nv < 0) then negR ⟨tv, nv, sv, bv⟩ else (numV nv, 0)) else (nul, 160)) := hid HR.out
    generalize vtypedB 1 [⟨tv, nv, sv, bv⟩] = tb at *
    obtain ⟨y1, y2⟩ := tb
    generalize negR ⟨tv, nv, sv, bv⟩ = N at *
    obtain ⟨⟨tn, nn, sn, bn⟩, en⟩ := N
    obtain ⟨x4, e4⟩ : ∃ x, decide (nv < 0) = x := ⟨_, rfl⟩
    simp only [e4] at HR
    have MC : Hid (∀ W, _) := hid (fun W => vnumber_any nv W)
    clear hat h3
    unfold Vp pairR V.val at *
    cases y1 <;> cases y2 <;> cases x4
    all_goals
      obtain rfl := HR.out
      clear HR
      go_enter Tryz.func73, Tryz.ntmps73
      go_wp2_with fail
      refine (TC.out _ _ ?_).mono ?_
      · intro i
        rw [Rg.blk_cells (alloc_two _ _ _)]
        rfl
      rintro e w1 ⟨rfl, hg⟩
      have hG1 : Gr w w1 := (((Gr.refl w).alloc _).alloc _).trans hg
      have hZ1 := (hg.block w.heap.size (by rw [World.size_alloc, World.size_alloc]; exact in_two _)).trans ((((Gr.refl _).alloc _).block _ (by rw [World.size_alloc]; exact Nat.lt_succ_self _)).trans (alloc_at w _))
      have cZ := Rg.blk_cells hZ1
      have fZ := Rg.blk_free hZ1
      have lZ := lt_blk hZ1
      have w0' := hG1.keep v0
      have w1' := hG1.keep v1
      have w2' := hG1.keep v2
      have w3' := hG1.keep v3
      have hb1 : b < w1.heap.size := lt_of_cell w0'
      clear hg hZ1
      go_wp2_with (first | (go_at_call 80; ((with_reducible refine (NC.out _).mono ?_)); rintro e w' ⟨rfl, hg⟩; have hc := hg.cells; have hf := hg.frees; have hz := hg.size; (try simp only [World.size_alloc, World.size_setCell, World.size_drew] at hz); (try have : 0 < w'.heap.size := by omega); (try have : w.heap.size < w'.heap.size := by omega); (try have : w.heap.size + 1 < w'.heap.size := by omega); (try have : w.heap.size + 1 + 1 < w'.heap.size := by omega); (try have : w.heap.size + 1 + 1 + 1 < w'.heap.size := by omega)) | (go_at_call 94; ((with_reducible refine (MC.out _).mono ?_)); rintro e w' ⟨rfl, hg⟩; have hc := hg.cells; have hf := hg.frees; have hz := hg.size; (try simp only [World.size_alloc, World.size_setCell, World.size_drew] at hz); (try have : 0 < w'.heap.size := by omega); (try have : w.heap.size < w'.heap.size := by omega); (try have : w.heap.size + 1 < w'.heap.size := by omega); (try have : w.heap.size + 1 + 1 < w'.heap.size := by omega); (try have : w.heap.size + 1 + 1 + 1 < w'.heap.size := by omega)))
      all_goals
        (try (go_step3; (try simp only [Exit.then]); (try change Rg.once _ _ _ _ _ _); rw [Rg.once_goto]; go_wp2))
        (try rw [Rg.once_ret])
        (try rw [Exit.noGoto_ret])
        (try change bodyPost _ _ _ _ _ _)
        first
        | (go_returns; refine ⟨?_, ?_⟩)
        | (refine bodyPost_ret (by simp [results, Tryz.results73, go_sem, *]; try rfl) rfl ⟨?_, ?_⟩)
        rotate_left
        · repeat' (first | exact Gr.refl _ | exact Nat.le_refl _ | exact Nat.le_add_right _ _ | refine Gr.setCell ?_ ?_ _ | refine Gr.alloc ?_ _ | refine Gr.drew ?_ | refine Gr.trans ?_ (by assumption) | omega | (dsimp only; omega))
      all_goals rfl
  | true =>
    have TC : Hid (∀ g W, _) := hid (fun g W h => TC 2 g W h)
    have HR : Hid (R = if (vtypedB 2 [⟨tv, nv, sv, bv⟩]).1 then (if (vtypedB 2 [⟨tv, nv, sv, bv⟩]).2 then (nul, 0) else (numV sv.size, 0)) else (nul, 160)) := hid HR.out
    generalize vtypedB 2 [⟨tv, nv, sv, bv⟩] = tb at *
    obtain ⟨y1, y2⟩ := tb
    have MC : Hid (∀ W, _) := hid (fun W => vnumber_any (sv.size : Int) W)
    clear hat h3 NC
    unfold Vp pairR at *
    cases y1 <;> cases y2
    all_goals
      obtain rfl := HR.out
      clear HR
      go_enter Tryz.func73, Tryz.ntmps73
      go_wp2_with fail
      refine (TC.out _ _ ?_).mono ?_
      · intro i
        rw [Rg.blk_cells (alloc_two _ _ _)]
        rfl
      rintro e w1 ⟨rfl, hg⟩
      have hG1 : Gr w w1 := (((Gr.refl w).alloc _).alloc _).trans hg
      have hZ1 := (hg.block w.heap.size (by rw [World.size_alloc, World.size_alloc]; exact in_two _)).trans ((((Gr.refl _).alloc _).block _ (by rw [World.size_alloc]; exact Nat.lt_succ_self _)).trans (alloc_at w _))
      have cZ := Rg.blk_cells hZ1
      have fZ := Rg.blk_free hZ1
      have lZ := lt_blk hZ1
      have w0' := hG1.keep v0
      have w1' := hG1.keep v1
      have w2' := hG1.keep v2
      have w3' := hG1.keep v3
      have hb1 : b < w1.heap.size := lt_of_cell w0'
      clear hg hZ1
      go_wp2_with (first | (go_at_call 94; ((with_reducible refine (MC.out _).mono ?_)); rintro e w' ⟨rfl, hg⟩; have hc := hg.cells; have hf := hg.frees; have hz := hg.size; (try simp only [World.size_alloc, World.size_setCell, World.size_drew] at hz); (try have : 0 < w'.heap.size := by omega); (try have : w.heap.size < w'.heap.size := by omega); (try have : w.heap.size + 1 < w'.heap.size := by omega); (try have : w.heap.size + 1 + 1 < w'.heap.size := by omega); (try have : w.heap.size + 1 + 1 + 1 < w'.heap.size := by omega)))
      all_goals
        (try (go_step3; (try simp only [Exit.then]); (try change Rg.once _ _ _ _ _ _); rw [Rg.once_goto]; go_wp2))
        (try rw [Rg.once_ret])
        (try rw [Exit.noGoto_ret])
        (try change bodyPost _ _ _ _ _ _)
        first
        | (go_returns; refine ⟨?_, ?_⟩)
        | (refine bodyPost_ret (by simp [results, Tryz.results73, go_sem, *]; try rfl) rfl ⟨?_, ?_⟩)
        rotate_left
        · repeat' (first | exact Gr.refl _ | exact Nat.le_refl _ | exact Nat.le_add_right _ _ | refine Gr.setCell ?_ ?_ _ | refine Gr.alloc ?_ _ | refine Gr.drew ?_ | refine Gr.trans ?_ (by assumption) | omega | (dsimp only; omega))
      all_goals rfl
end Go.Proofs.YtbeinfhgfflneaaGreat
end
section
namespace Go.Proofs.YtbeinfhgfflneaaGreat
open Go.RowKit
set_option linter.unusedSimpArgs false
set_option linter.unusedVariables false
attribute [local go_sem] Rg.leads_value Rg.leads_skip Rg.leads_enter Rg.brings_value Rg.brings_skip Rg.brings_enter Rg.bringsG_value Rg.bringsG_enter Rg.once_normal Rg.once_exit Rg.once_ret Rg.once_panic Rg.once_goto
theorem vcall_full (name : ByteArray) (oa : Option Addr) (c : Nat) (l : List V) (w : World) (hat : VAt w oa l) (hb : l.length ≤ 2000000) (hv : ∀ v ∈ l, Bd v.n ∧ v.s.size ≤ 9223372036854775807) : Calls Tryz.prog 73 #[.string name, .slice oa l.length c] w (Vp (callV name l) w) := by
  unfold callV
  cases h1 : (name.toList == [99, 111, 97, 108, 101, 115, 99, 101] && decide (0 < l.length)) with
  | true =>
    rw [if_pos rfl]
    rw [Bool.and_eq_true] at h1
    exact vcall_coal name oa c l w hat hb h1.1 (by simpa using h1.2)
  | false =>
    rw [if_neg (by decide)]
    match l, hat, hv, h1 with
    | [], hat, hv, h1 => exact vcall_len name oa 0 c w h1 (by decide)
    | [a], hat, hv, h1 =>
      have h0 : (name.toList == [99, 111, 97, 108, 101, 115, 99, 101]) = false := by simpa using h1
      have ha := hv a (by simp)
      show Calls _ _ _ _ (Vp (if name.toList == [108, 101, 110, 103, 116, 104] then oneV true a else if name.toList == [97, 98, 115] then oneV false a else (nul, 1)) w)
      cases h2 : (name.toList == [108, 101, 110, 103, 116, 104]) with
      | true => exact vcall_one true name oa c a w hat ha.1 ha.2 h0 h2 (.inl rfl)
      | false =>
        cases h3 : (name.toList == [97, 98, 115]) with
        | true => exact vcall_one false name oa c a w hat ha.1 ha.2 h0 h2 (.inr h3)
        | false => exact vcall_name name oa c w h0 h2 h3
    | a :: b :: r, hat, hv, h1 => exact vcall_len name oa (r.length + 2) c w h1 (by omega)
set_option maxHeartbeats 4000000 in
set_option maxRecDepth 100000 in
theorem call_form (p : Nat) (rh : Hd) (roa : Option Addr) (rn rc : Nat) (w : World) (rs : List (V × Int)) (hK : KD p w roa rn rs) (hv : ∀ r ∈ rs, Bd r.1.n ∧ r.1.s.size ≤ 9223372036854775807) : Calls Tryz.prog 45 #[.pointer (some ⟨p, 0, none⟩), XR.val ⟨rh, roa, rn, rc⟩] w (Vp (callX rh.name rs) w) := by
  have KC : Hid (∀ W, Gr w W → _) := hid (fun W h => kids_form p rh roa rn rc W rs (hK.keep h))
  have hlen : (valsR rs).length = rs.length := by simp [valsR]
  have hb := hK.2.1
  have hn := hK.1
  have VC : Hid (∀ oa c W, VAt W oa (valsR rs) → Calls Tryz.prog 73 #[.string rh.name, .slice oa rs.length c] W (Vp (callV rh.name (valsR rs)) W)) := hid (fun oa c W h => by
    have := vcall_full rh.name oa c (valsR rs) W h (by omega) (fun v hv' => by
      obtain ⟨r, h1, rfl⟩ := List.mem_map.1 hv'
      exact hv r h1)
    rwa [hlen] at this)
  have HR : Hid (callX rh.name rs = if errR rs == 0 then callV rh.name (valsR rs) else (nul, errR rs)) := hid rfl
  generalize callX rh.name rs = R at *
  obtain ⟨N, hN⟩ : ∃ N, callV rh.name (valsR rs) = N := ⟨_, rfl⟩
  rw [hN] at HR VC
  clear hK hN hlen hb hn hv
  obtain ⟨op, ⟨vt, vn, vs, vb⟩, tab, name, t, c, nt, st⟩ := rh
  obtain ⟨⟨tn, nn, sn, bn⟩, en⟩ := N
  unfold XR.val Vp at *
  go_enter Tryz.func45, Tryz.ntmps45
  go_wp2_with fail
  refine (KC.out _ (((Gr.refl _).alloc _).alloc _)).mono ?_
  rintro e w1 hKp
  obtain ⟨hg, ⟨h0, oa, cc, rfl, hat⟩ | ⟨h0, rfl⟩⟩ := hKp
  · obtain rfl : R = (⟨tn, nn, sn, bn⟩, en) := by rw [HR.out, if_pos (by simpa using h0)]
    have VC1 := hid (VC.out oa cc w1 hat)
    clear HR KC h0 VC hat
    unfold pairR at VC1
    have hc := hg.cells
    have hf := hg.frees
    have hz := hg.size
    try simp only [World.size_alloc, World.size_setCell, World.size_drew] at hz
    have : w.heap.size < w1.heap.size := by omega
    have : w.heap.size + 1 < w1.heap.size := by omega
    go_wp2_with (first | (go_at_call 73; ((with_reducible refine (VC1.out).mono ?_)); rintro e w' ⟨rfl, hg⟩; have hc := hg.cells; have hf := hg.frees; have hz := hg.size; (try simp only [World.size_alloc, World.size_setCell, World.size_drew] at hz); (try have : 0 < w'.heap.size := by omega); (try have : w.heap.size < w'.heap.size := by omega); (try have : w.heap.size + 1 < w'.heap.size := by omega); (try have : w.heap.size + 1 + 1 < w'.heap.size := by omega); (try have : w.heap.size + 1 + 1 + 1 < w'.heap.size := by omega)))
    all_goals
      (try (go_step3; (try simp only [Exit.then]); (try change Rg.once _ _ _ _ _ _); rw [Rg.once_goto]; go_wp2))
      (try rw [Rg.once_ret])
      (try rw [Exit.noGoto_ret])
      (try change bodyPost _ _ _ _ _ _)
      first
      | (go_returns; refine ⟨?_, ?_⟩)
      | (refine bodyPost_ret (by simp [results, Tryz.results45, go_sem, *]; try rfl) rfl ⟨?_, ?_⟩)
      rotate_left
      · repeat' (first | exact Gr.refl _ | exact Nat.le_refl _ | exact Nat.le_add_right _ _ | refine Gr.setCell ?_ ?_ _ | refine Gr.alloc ?_ _ | refine Gr.drew ?_ | refine Gr.trans ?_ (by assumption) | omega | (dsimp only; omega))
    all_goals rfl
  · obtain ⟨ea, hEA⟩ : ∃ ea, errR rs = ea := ⟨_, rfl⟩
    obtain rfl : R = (nul, ea) := by rw [HR.out, if_neg (by simpa using h0), hEA]
    rw [hEA] at h0
    simp only [hEA]
    have q1 : (ea != 0) = true := by simpa using h0
    clear HR KC h0 VC hEA
    have hc := hg.cells
    have hf := hg.frees
    have hz := hg.size
    try simp only [World.size_alloc, World.size_setCell, World.size_drew] at hz
    have : w.heap.size < w1.heap.size := by omega
    have : w.heap.size + 1 < w1.heap.size := by omega
    go_wp2
    all_goals
      (try (go_step3; (try simp only [Exit.then]); (try change Rg.once _ _ _ _ _ _); rw [Rg.once_goto]; go_wp2))
      (try rw [Rg.once_ret])
      (try rw [Exit.noGoto_ret])
      (try change bodyPost _ _ _ _ _ _)
      first
      | (go_returns; refine ⟨?_, ?_⟩)
      | (refine bodyPost_ret (by simp [results, Tryz.results45, go_sem, *]; try rfl) rfl ⟨?_, ?_⟩)
      rotate_left
      · repeat' (first | exact Gr.refl _ | exact Nat.le_refl _ | exact Nat.le_add_right _ _ | refine Gr.setCell ?_ ?_ _ | refine Gr.alloc ?_ _ | refine Gr.drew ?_ | refine Gr.trans ?_ (by assumption) | omega | (dsimp only; omega))
    all_goals rfl
end Go.Proofs.YtbeinfhgfflneaaGreat
end
section
namespace Go.Proofs.YtbeinfhgfflneaaGreat
open Go.RowKit
set_option linter.unusedSimpArgs false
set_option linter.unusedVariables false
theorem evH_less (rows : List (List V)) (agv : V × Int) (h : Hd) (rs : List (V × Int)) (h1 : 9 ≤ h.op) (h2 : h.op ≤ 14) : evH rows agv h rs = twoX (lessR h.op) rs := by
  unfold evH
  have e : ∀ k : Int, k < 9 ∨ 14 < k → (h.op == k) = false := fun k hk => by simp; omega
  rw [e 1 (by omega), e 3 (by omega), e 4 (by omega), e 5 (by omega), e 6 (by omega), e 7 (by omega), e 8 (by omega), e 15 (by omega), e 16 (by omega), e 17 (by omega), e 24 (by omega)]
  have t : (decide (9 ≤ h.op) && decide (h.op ≤ 14)) = true := by simp; omega
  rw [t]
  rfl
theorem evH_math (rows : List (List V)) (agv : V × Int) (h : Hd) (rs : List (V × Int)) (h1 : 18 ≤ h.op) (h2 : h.op ≤ 23) : evH rows agv h rs = twoX (mathR h.op) rs := by
  unfold evH
  have e : ∀ k : Int, k < 18 ∨ 23 < k → (h.op == k) = false := fun k hk => by simp; omega
  rw [e 1 (by omega), e 3 (by omega), e 4 (by omega), e 5 (by omega), e 6 (by omega), e 7 (by omega), e 8 (by omega), e 15 (by omega), e 16 (by omega), e 17 (by omega), e 24 (by omega)]
  have t : (decide (9 ≤ h.op) && decide (h.op ≤ 14)) = false := by simp; omega
  have t2 : (decide (18 ≤ h.op) && decide (h.op ≤ 23)) = true := by simp; omega
  rw [t, t2]
  rfl
theorem evH_out (rows : List (List V)) (agv : V × Int) (h : Hd) (rs : List (V × Int)) (h1 : h.op < 0 ∨ 25 ≤ h.op) : evH rows agv h rs = (nul, 1) := by
  unfold evH
  have e : ∀ k : Int, 0 ≤ k ∧ k < 25 → (h.op == k) = false := fun k hk => by simp; omega
  rw [e 1 (by omega), e 3 (by omega), e 4 (by omega), e 5 (by omega), e 6 (by omega), e 7 (by omega), e 8 (by omega), e 15 (by omega), e 16 (by omega), e 17 (by omega), e 24 (by omega)]
  have t : (decide (9 ≤ h.op) && decide (h.op ≤ 14)) = false := by simp; omega
  have t2 : (decide (18 ≤ h.op) && decide (h.op ≤ 23)) = false := by simp; omega
  rw [t, t2]
  rfl
theorem rs_none {rs : List (V × Int)} (h : rs.length = 0) : rs = [] := List.eq_nil_of_length_eq_zero h
theorem rs_one {rs : List (V × Int)} (h : rs.length = 1) : ∃ a, rs = [a] := List.length_eq_one_iff.1 h
theorem rs_two {rs : List (V × Int)} (h : rs.length = 2) : ∃ a b, rs = [a, b] := by
  match rs, h with
  | [a, b], _ => exact ⟨a, b, rfl⟩
theorem rs_three {rs : List (V × Int)} (h : rs.length = 3) : ∃ a b c, rs = [a, b, c] := by
  match rs, h with
  | [a, b, c], _ => exact ⟨a, b, c, rfl⟩
theorem two_no (f : V → V → V × Int) (rs : List (V × Int)) (h : ¬ rs.length = 2) : twoX f rs = (nul, 1) := by
  match rs, h with
  | [], _ => rfl
  | [_], _ => rfl
  | [_, _], h => exact absurd rfl h
  | _ :: _ :: _ :: _, _ => rfl
theorem side_no (d : Bool) (f : V → V → V × Int) (rs : List (V × Int)) (h : ¬ rs.length = 2) : sideX d f rs = (nul, 1) := by
  match rs, h with
  | [], _ => rfl
  | [_], _ => rfl
  | [_, _], h => exact absurd rfl h
  | _ :: _ :: _ :: _, _ => rfl
theorem one_no (f : V → V × Int) (rs : List (V × Int)) (h : ¬ rs.length = 1) : oneX f rs = (nul, 1) := by
  match rs, h with
  | [], _ => rfl
  | [_], h => exact absurd rfl h
  | _ :: _ :: _, _ => rfl
theorem bet_no (nt : Bool) (rs : List (V × Int)) (h : ¬ rs.length = 3) : betX nt rs = (nul, 1) := by
  match rs, h with
  | [], _ => rfl
  | [_], _ => rfl
  | [_, _], _ => rfl
  | [_, _, _], h => exact absurd rfl h
  | _ :: _ :: _ :: _ :: _, _ => rfl
theorem lit_no (v : V) (rs : List (V × Int)) (h : ¬ rs.length = 0) : litX v rs = (nul, 1) := by
  cases rs with
  | nil => exact absurd rfl h
  | cons a r => rfl
theorem col_no (rows : List (List V)) (t c : Int) (rs : List (V × Int)) (h : ¬ rs.length = 0) : colX rows t c rs = (nul, 1) := by
  cases rs with
  | nil => exact absurd rfl h
  | cons a r => rfl
set_option maxHeartbeats 4000000 in
set_option maxRecDepth 100000 in
theorem ex_form (p : Nat) (rh : Hd) (roa : Option Addr) (rn rc : Nat) (w : World) (rows : List (List V)) (ag : Ex → V × Int) (rs : List (V × Int)) (agv : V × Int) (hE : EnvAt p w rows ag) (hK : KD p w roa rn rs)
    (hA : ∀ W, Gr w W → Calls Tryz.prog 44 #[.pointer (some ⟨p, 0, none⟩), XR.val ⟨rh, roa, rn, rc⟩] W (Vp agv W)) (hb : ∀ r ∈ rs, Bd r.1.n ∧ r.1.s.size ≤ 9223372036854775807) (hs : ∀ a b, rs = [a, b] → a.1.s.size + b.1.s.size ≤ 9223372036854775807) (hcap : rn ≤ rc) :
    Calls Tryz.prog 18 #[.pointer (some ⟨p, 0, none⟩), XR.val ⟨rh, roa, rn, rc⟩] w (Vp (evH rows agv rh rs) w) := by
  have hn := hK.1
  by_cases h9 : 9 ≤ rh.op ∧ rh.op ≤ 14
  · rw [evH_less rows agv rh rs h9.1 h9.2]
    by_cases hl : rs.length = 2
    · obtain ⟨a, b, rfl⟩ := rs_two hl
      exact expr_some p rh roa rn rc w 53 2 _ (fun W => table_less rh.op W h9.1 h9.2) (.inr (by rw [hn, hl]; rfl)) (fun args W => by kernel_rfl) (fun W h => less_form p rh roa rn rc W a b (hK.keep h))
    · rw [two_no _ _ hl]
      exact expr_few p rh roa rn rc w 53 2 (fun W => table_less rh.op W h9.1 h9.2) (by rw [hn]; exact hl)
  by_cases h18 : 18 ≤ rh.op ∧ rh.op ≤ 23
  · rw [evH_math rows agv rh rs h18.1 h18.2]
    by_cases hl : rs.length = 2
    · obtain ⟨a, b, rfl⟩ := rs_two hl
      exact expr_some p rh roa rn rc w 54 2 _ (fun W => table_math rh.op W h18.1 h18.2) (.inr (by rw [hn, hl]; rfl)) (fun args W => by kernel_rfl) (fun W h => math_form p rh roa rn rc W a b (hK.keep h) (hb a (by simp)).1 (hb b (by simp)).1 (hs a b rfl))
    · rw [two_no _ _ hl]
      exact expr_few p rh roa rn rc w 54 2 (fun W => table_math rh.op W h18.1 h18.2) (by rw [hn]; exact hl)
  rcases Int.lt_or_le rh.op 0 with h0 | h0
  · rw [evH_out rows agv rh rs (.inl h0)]
    exact expr_none p rh roa rn rc w (fun W => table_low rh.op W h0)
  rcases Int.lt_or_le rh.op 25 with h25 | h25
  rotate_left
  · rw [evH_out rows agv rh rs (.inr h25)]
    exact expr_none p rh roa rn rc w (fun W => table_high rh.op W h25)
  have hk : rh.op = 0 ∨ rh.op = 1 ∨ rh.op = 2 ∨ rh.op = 3 ∨ rh.op = 4 ∨ rh.op = 5 ∨ rh.op = 6 ∨ rh.op = 7 ∨ rh.op = 8 ∨ rh.op = 15 ∨ rh.op = 16 ∨ rh.op = 17 ∨ rh.op = 24 := by omega
  clear h9 h18 h0 h25
  rcases hk with hk | hk | hk | hk | hk | hk | hk | hk | hk | hk | hk | hk | hk
  · have ev : evH rows agv rh rs = (nul, 1) := by unfold evH; rw [hk]; rfl
    rw [ev]
    exact expr_none p rh roa rn rc w (fun W => by have h := table_at 0 W (by decide) (by decide) (by decide) _ _ rfl rfl; rw [hk]; exact h)
  · have ev : evH rows agv rh rs = litX rh.v rs := by unfold evH; rw [hk]; rfl
    rw [ev]
    by_cases hl : rs.length = 0
    · obtain rfl := rs_none hl
      exact expr_some p rh roa rn rc w 42 0 _ (fun W => by have h := table_at 1 W (by decide) (by decide) (by decide) _ _ rfl rfl; rw [hk]; exact h) (.inr (by rw [hn, hl]; rfl)) (fun args W => by kernel_rfl) (fun W h => lit_form p rh roa rn rc W)
    · rw [lit_no _ _ hl]
      exact expr_few p rh roa rn rc w 42 0 (fun W => by have h := table_at 1 W (by decide) (by decide) (by decide) _ _ rfl rfl; rw [hk]; exact h) (by rw [hn]; exact hl)
  · have ev : evH rows agv rh rs = (nul, 1) := by unfold evH; rw [hk]; rfl
    rw [ev]
    exact expr_none p rh roa rn rc w (fun W => by have h := table_at 2 W (by decide) (by decide) (by decide) _ _ rfl rfl; rw [hk]; exact h)
  · have ev : evH rows agv rh rs = colX rows rh.t rh.c rs := by unfold evH; rw [hk]; rfl
    rw [ev]
    by_cases hl : rs.length = 0
    · obtain rfl := rs_none hl
      exact expr_some p rh roa rn rc w 43 0 _ (fun W => by have h := table_at 3 W (by decide) (by decide) (by decide) _ _ rfl rfl; rw [hk]; exact h) (.inr (by rw [hn, hl]; rfl)) (fun args W => by kernel_rfl) (fun W h => col_form p rh roa rn rc W rows ag (hE.keep h))
    · rw [col_no _ _ _ _ hl]
      exact expr_few p rh roa rn rc w 43 0 (fun W => by have h := table_at 3 W (by decide) (by decide) (by decide) _ _ rfl rfl; rw [hk]; exact h) (by rw [hn]; exact hl)
  · have ev : evH rows agv rh rs = agv := by unfold evH; rw [hk]; rfl
    rw [ev]
    exact expr_some p rh roa rn rc w 44 (-1) _ (fun W => by have h := table_at 4 W (by decide) (by decide) (by decide) _ _ rfl rfl; rw [hk]; exact h) (.inl (by decide)) (fun args W => by kernel_rfl) (fun W h => hA W h)
  · have ev : evH rows agv rh rs = callX rh.name rs := by unfold evH; rw [hk]; rfl
    rw [ev]
    exact expr_some p rh roa rn rc w 45 (-1) _ (fun W => by have h := table_at 5 W (by decide) (by decide) (by decide) _ _ rfl rfl; rw [hk]; exact h) (.inl (by decide)) (fun args W => by kernel_rfl) (fun W h => call_form p rh roa rn rc W rs (hK.keep h) (fun r hr => ⟨(hb r hr).1, (hb r hr).2⟩))
  · have ev : evH rows agv rh rs = sideX true orR rs := by unfold evH; rw [hk]; rfl
    rw [ev]
    by_cases hl : rs.length = 2
    · obtain ⟨a, b, rfl⟩ := rs_two hl
      exact expr_some p rh roa rn rc w 46 2 _ (fun W => by have h := table_at 6 W (by decide) (by decide) (by decide) _ _ rfl rfl; rw [hk]; exact h) (.inr (by rw [hn, hl]; rfl)) (fun args W => by kernel_rfl) (fun W h => or_form p rh roa rn rc W a b (hK.keep h))
    · rw [side_no _ _ _ hl]
      exact expr_few p rh roa rn rc w 46 2 (fun W => by have h := table_at 6 W (by decide) (by decide) (by decide) _ _ rfl rfl; rw [hk]; exact h) (by rw [hn]; exact hl)
  · have ev : evH rows agv rh rs = sideX false andR rs := by unfold evH; rw [hk]; rfl
    rw [ev]
    by_cases hl : rs.length = 2
    · obtain ⟨a, b, rfl⟩ := rs_two hl
      exact expr_some p rh roa rn rc w 47 2 _ (fun W => by have h := table_at 7 W (by decide) (by decide) (by decide) _ _ rfl rfl; rw [hk]; exact h) (.inr (by rw [hn, hl]; rfl)) (fun args W => by kernel_rfl) (fun W h => and_form p rh roa rn rc W a b (hK.keep h))
    · rw [side_no _ _ _ hl]
      exact expr_few p rh roa rn rc w 47 2 (fun W => by have h := table_at 7 W (by decide) (by decide) (by decide) _ _ rfl rfl; rw [hk]; exact h) (by rw [hn]; exact hl)
  · have ev : evH rows agv rh rs = oneX notR rs := by unfold evH; rw [hk]; rfl
    rw [ev]
    by_cases hl : rs.length = 1
    · obtain ⟨a, rfl⟩ := rs_one hl
      exact expr_some p rh roa rn rc w 48 1 _ (fun W => by have h := table_at 8 W (by decide) (by decide) (by decide) _ _ rfl rfl; rw [hk]; exact h) (.inr (by rw [hn, hl]; rfl)) (fun args W => by kernel_rfl) (fun W h => not_form p rh roa rn rc W a (hK.keep h))
    · rw [one_no _ _ hl]
      exact expr_few p rh roa rn rc w 48 1 (fun W => by have h := table_at 8 W (by decide) (by decide) (by decide) _ _ rfl rfl; rw [hk]; exact h) (by rw [hn]; exact hl)
  · have ev : evH rows agv rh rs = oneX (isNullR rh.nt) rs := by unfold evH; rw [hk]; rfl
    rw [ev]
    by_cases hl : rs.length = 1
    · obtain ⟨a, rfl⟩ := rs_one hl
      exact expr_some p rh roa rn rc w 49 1 _ (fun W => by have h := table_at 15 W (by decide) (by decide) (by decide) _ _ rfl rfl; rw [hk]; exact h) (.inr (by rw [hn, hl]; rfl)) (fun args W => by kernel_rfl) (fun W h => isNull_form p rh roa rn rc W a (hK.keep h))
    · rw [one_no _ _ hl]
      exact expr_few p rh roa rn rc w 49 1 (fun W => by have h := table_at 15 W (by decide) (by decide) (by decide) _ _ rfl rfl; rw [hk]; exact h) (by rw [hn]; exact hl)
  · have ev : evH rows agv rh rs = inX rh.nt rs := by unfold evH; rw [hk]; rfl
    rw [ev]
    exact expr_some p rh roa rn rc w 50 (-1) _ (fun W => by have h := table_at 16 W (by decide) (by decide) (by decide) _ _ rfl rfl; rw [hk]; exact h) (.inl (by decide)) (fun args W => by kernel_rfl) (fun W h => in_form p rh roa rn rc W rs (hK.keep h) hcap)
  · have ev : evH rows agv rh rs = betX rh.nt rs := by unfold evH; rw [hk]; rfl
    rw [ev]
    by_cases hl : rs.length = 3
    · obtain ⟨a, b, d, rfl⟩ := rs_three hl
      exact expr_some p rh roa rn rc w 51 3 _ (fun W => by have h := table_at 17 W (by decide) (by decide) (by decide) _ _ rfl rfl; rw [hk]; exact h) (.inr (by rw [hn, hl]; rfl)) (fun args W => by kernel_rfl) (fun W h => between_form p rh roa rn rc W a b d (hK.keep h))
    · rw [bet_no _ _ hl]
      exact expr_few p rh roa rn rc w 51 3 (fun W => by have h := table_at 17 W (by decide) (by decide) (by decide) _ _ rfl rfl; rw [hk]; exact h) (by rw [hn]; exact hl)
  · have ev : evH rows agv rh rs = oneX negR rs := by unfold evH; rw [hk]; rfl
    rw [ev]
    by_cases hl : rs.length = 1
    · obtain ⟨a, rfl⟩ := rs_one hl
      exact expr_some p rh roa rn rc w 52 1 _ (fun W => by have h := table_at 24 W (by decide) (by decide) (by decide) _ _ rfl rfl; rw [hk]; exact h) (.inr (by rw [hn, hl]; rfl)) (fun args W => by kernel_rfl) (fun W h => neg_form p rh roa rn rc W a (hK.keep h) ((Vl.fits_iff _).2 (hb a (by simp)).1))
    · rw [one_no _ _ hl]
      exact expr_few p rh roa rn rc w 52 1 (fun W => by have h := table_at 24 W (by decide) (by decide) (by decide) _ _ rfl rfl; rw [hk]; exact h) (by rw [hn]; exact hl)
theorem forms_mem : ∀ (xs : List Ex) (y : Ex), y ∈ xs → y.forms ≤ Exs.forms xs
  | [], y, h => by simp at h
  | x :: xs, y, h => by
    rw [Exs.forms]
    rcases List.mem_cons.1 h with rfl | h
    · omega
    · have := forms_mem xs y h; omega
theorem fits_mem (c : Nat) : ∀ (xs : List Ex), Exs.fitsX c xs → ∀ y ∈ xs, Ex.fitsX c y
  | [], _, y, h => by simp at h
  | x :: xs, hf, y, h => by
    rw [Exs.fitsX] at hf
    rcases List.mem_cons.1 h with rfl | h
    · exact hf.1
    · exact fits_mem c xs hf.2 y h
theorem VBs.pair {S : Nat} {a b : V × Int} (h : VBs S [a, b]) : a.1.s.size + b.1.s.size ≤ S := by
  obtain ⟨a1, b1, e1, h1, a2, b2, e2, h2, _⟩ := h
  have := h1.2
  have := h2.2
  omega
theorem ev_any (p : Nat) (rows : List (List V)) (ag : Ex → V × Int) (c : Nat) (hr : ∀ l ∈ rows, ∀ v ∈ l, VB c v) (ha : ∀ x, VB c (ag x).1) : ∀ (N : Nat) (x : Ex), x.forms ≤ N → ∀ (r : XR) (w : World), EnvAt p w rows ag → Ex.At Al w x r → Ex.fitsX c x → x.forms * c ≤ 9223372036854775807 →
    Calls Tryz.prog 18 #[.pointer (some ⟨p, 0, none⟩), XR.val r] w (Vp (evX rows ag x) w)
  | 0, x, hN, _, _, _, _, _, _ => by cases x; rw [Ex.forms] at hN; omega
  | N + 1, .mk h ks, hN, ⟨rh, roa, rn, rc⟩, w, hE, hx, hf, hs => by
    have hx0 := hx
    unfold Ex.At at hx
    obtain ⟨e1, e2, e3, _⟩ := hx
    have e1 : rh = h := e1
    subst e1
    rw [Ex.fitsX] at hf
    rw [Ex.forms] at hN hs
    rw [Nat.add_mul, Nat.one_mul] at hs
    have hv := vb_evXs c rows ag hr ha ks hf.2 (by omega)
    have hK := kd_of hE hx0 (fun y hy r' W hE' hx' => ev_any p rows ag c hr ha N y (by have := forms_mem ks y hy; omega) r' W hE' hx' (fits_mem c ks hf.2 y hy) (by
      have := forms_mem ks y hy
      exact Nat.le_trans (Nat.mul_le_mul_right c this) (by omega)))
    rw [evX]
    refine ex_form p rh roa rn rc w rows ag (evXs rows ag ks) (ag (.mk rh ks)) hE hK (fun W hW => hE.agg W _ _ hW (hx0.of hW.size (fun b _ hb => hW.block b hb))) (fun r hr' => ?_) (fun a b e => ?_) e3.1
    · have := hv.each r hr'
      exact ⟨this.1, by have := this.2; omega⟩
    · rw [e] at hv
      have := hv.pair
      omega
end Go.Proofs.YtbeinfhgfflneaaGreat
end
section
namespace Go.Proofs.YtbeinfhgfflneaaGreat
open Go.RowKit
set_option linter.unusedSimpArgs false
set_option linter.unusedVariables false
attribute [local go_sem] Rg.leads_value Rg.leads_skip Rg.leads_enter Rg.brings_value Rg.brings_skip Rg.brings_enter Rg.bringsG_value Rg.bringsG_enter Rg.once_normal Rg.once_exit Rg.once_ret Rg.once_panic Rg.once_goto
set_option maxHeartbeats 4000000 in
set_option maxRecDepth 100000 in
theorem idx_nil (f : Value) (w : World) : Calls Tryz.prog 40 #[.slice none 0 0, f] w fun e w' => e = .returned (.int .i64 (-1)) ∧ w' = w := by
  go_enter Tryz.func40, Tryz.ntmps40
  go_wp2_with fail
  go_loopw [8] (fun s8 wr => s8 = .int .i64 0 ∧ wr = w) (fun _ _ => 0)
  · exact ⟨rfl, rfl⟩
  · obtain ⟨rfl, rfl⟩ := hrel
    go_wp2
    go_returns
    exact ⟨rfl, rfl⟩
set_option maxHeartbeats 4000000 in
set_option maxRecDepth 100000 in
theorem agg_none (p : Nat) (r : XR) (w : World) (c1 : w.cell? ⟨p, 1, none⟩ = some (.slice none 0 0)) : Calls Tryz.prog 44 #[.pointer (some ⟨p, 0, none⟩), XR.val r] w (Vp (nul, 1) w) := by
  obtain ⟨⟨op, ⟨vt, vn, vs, vb⟩, tab, name, t, c, nt, st⟩, roa, rn, rc⟩ := r
  have hp := lt_of_cell c1
  unfold XR.val Vp pairR nul
  go_enter Tryz.func44, Tryz.ntmps44
  go_wp2_with (refine (idx_nil _ _).mono ?_; rintro e w' ⟨rfl, rfl⟩)
  all_goals
    (try (go_step3; (try simp only [Exit.then]); (try change Rg.once _ _ _ _ _ _); rw [Rg.once_goto]; go_wp2))
    (try rw [Rg.once_ret])
    (try rw [Exit.noGoto_ret])
    (try change bodyPost _ _ _ _ _ _)
    first
    | (go_returns; refine ⟨?_, ?_⟩)
    | (refine bodyPost_ret (by simp [results, Tryz.results44, go_sem, *]; try rfl) rfl ⟨?_, ?_⟩)
    rotate_left
    · repeat' (first | exact Gr.refl _ | exact Nat.le_refl _ | exact Nat.le_add_right _ _ | refine Gr.setCell ?_ ?_ _ | refine Gr.alloc ?_ _ | refine Gr.drew ?_ | refine Gr.trans ?_ (by assumption) | omega | (dsimp only; omega))
  all_goals rfl
mutual
def Ex.noAgg : Ex → Bool
  | .mk h ks => (h.op != 4) && Exs.noAgg ks
def Exs.noAgg : List Ex → Bool
  | [] => true
  | x :: xs => Ex.noAgg x && Exs.noAgg xs
end
theorem noagg_mem : ∀ (xs : List Ex), Exs.noAgg xs = true → ∀ y ∈ xs, Ex.noAgg y = true
  | [], _, y, h => by simp at h
  | x :: xs, hf, y, h => by
    rw [Exs.noAgg, Bool.and_eq_true] at hf
    rcases List.mem_cons.1 h with rfl | h
    · exact hf.1
    · exact noagg_mem xs hf.2 y h
set_option maxHeartbeats 8000000 in
set_option maxRecDepth 100000 in
theorem walk_step (h : Hd) (ks : List Ex) (roa : Option Addr) (rn rc : Nat) (go gw : Nat) (w : World) (hx : Ex.At Al w (.mk h ks) ⟨h, roa, rn, rc⟩) (h4 : (h.op == 4) = false) (cw : w.cell? ⟨gw, 0, none⟩ = some (.func (.func 27) #[] #[.pointer (some ⟨go, 0, none⟩), .pointer (some ⟨gw, 0, none⟩)]))
    (hrec : ∀ y ∈ ks, ∀ r' W, Gr w W → Ex.At Al W y r' → Calls Tryz.prog 27 #[XR.val r', .pointer (some ⟨go, 0, none⟩), .pointer (some ⟨gw, 0, none⟩)] W fun e w' => e = .returned (.tuple #[]) ∧ Gr W w') :
    Calls Tryz.prog 27 #[XR.val ⟨h, roa, rn, rc⟩, .pointer (some ⟨go, 0, none⟩), .pointer (some ⟨gw, 0, none⟩)] w fun e w' => e = .returned (.tuple #[]) ∧ Gr w w' := by
  unfold Ex.At at hx
  obtain ⟨_, hn, hfit, rs, hl, hrow, hats⟩ := hx
  have hn : rn = ks.length := hn
  have hbd : rn ≤ 2000000 := hfit.2
  have HKID : Hid (∀ k (hk : k < rn), ∃ b off rk, roa = some ⟨b, off, none⟩ ∧ b < w.heap.size ∧ (∀ i u, (xF rk)[i]? = some u → w.cell? ⟨b, off + k * 12 + i, none⟩ = some u) ∧ ∀ W, Gr w W → Calls Tryz.prog 27 #[XR.val rk, .pointer (some ⟨go, 0, none⟩), .pointer (some ⟨gw, 0, none⟩)] W fun e w' => e = .returned (.tuple #[]) ∧ Gr W w') := hid (fun k hk => by
    have hkk : k < ks.length := by omega
    have hkr : k < rs.length := by omega
    rcases hrow with h0 | ⟨b, off, hoa, hbl, hSb, hfr, hr⟩
    · rw [h0] at hkr; simp at hkr
    · exact ⟨b, off, rs[k], hoa, hbl, hr k hkr, fun W hW => hrec _ (List.getElem_mem hkk) _ W hW ((hats.get k hkk hkr).of hW.size (fun b _ hb => hW.block b hb))⟩)
  have lw := lt_of_cell cw
  clear hrow hats hl hrec hn hfit
  obtain ⟨op, ⟨vt, vn, vs, vb⟩, tab, name, t, c, nt, st⟩ := h
  have h4 : (op == 4) = false := h4
  unfold XR.val at *
  have CW := hid cw
  clear cw
  go_enter Tryz.func27, Tryz.ntmps27
  go_wp2_with fail
  go_loopw [25] (fun s25 wr => ∃ k : Nat, s25 = .int .i64 (k : Int) ∧ k ≤ rn ∧ Gr w wr) (fun s25 _ => rn - (intOf s25).toNat)
  · exact ⟨0, rfl, Nat.zero_le _, (Gr.refl _).alloc _⟩
  · obtain ⟨k, rfl, hk, hg⟩ := hrel
    have HG := hid hg
    by_cases hkn : k < rn
    · have t1 : decide ((k : Int) < (rn : Int)) = true := fi_dec hkn
      have gk : (k : Int) < (rn : Int) := fi_lt hkn
      have HWK := hid (fi_wrap hkn hbd)
      have HMS := hid (in_ms hkn)
      obtain ⟨b, off, rk, rfl, hbl, hcs, HC⟩ := HKID.out k hkn
      obtain ⟨k0, k1, k2, k3, k4, k5, k6, k7, k8, k9, k10, k11⟩ := kid_cells (w := wr) (fun i u hu => hg.keep (hcs i u hu))
      have HC := hid (fun W h => HC W (hg.trans h))
      have HAL := hid (alloc_at wr (.cells zeroX 26))
      have HGB := hid (fun W5 h => gr_boxE (w1 := wr) (o := .cells zeroX 26) (W := W5) h)
      clear hcs hg hk
      unfold XR.val at HC
      go_wp2_with (first | (guard_target =~ wpList _ _ _ (Oper.mk _ (Op.store 26 _ _) _ _ _ _ :: _) _ _; refine st_row (ty := 26) rfl rfl wr.heap.size rk.cells rfl rfl 26 _ HAL.out (by kernel_rfl) rfl (by kernel_rfl) ?_; intro W5 hW5 gW5 zW5; have hg5 := HGB.out W5 gW5; have HW5 := hid hW5; have c5 := (HG.out.trans hg5).keep CW.out; clear gW5 zW5 hW5) | (guard_target =~ wpList _ _ _ (Oper.mk _ (Op.load 26 _) _ _ _ _ :: _) _ _; refine wpList_load_row rfl 26 _ rfl wr.heap.size rfl 26 rk.cells (0, 0) _ HW5.out Tryz.underlying26 rfl (by kernel_rfl) ?_))
      refine (HC.out W5 hg5).mono ?_
      rintro e w3 ⟨rfl, hg3⟩
      have HX := hid (HG.out.trans (hg5.trans hg3))
      clear hg5 hg3 HC HAL HGB HW5 k0 k1 k2 k3 k4 k5 k6 k7 k8 k9 k10 k11 c5 HG CW
      go_wp2
      exact ⟨⟨k + 1, in_next, hkn, HX.out⟩, HMS.out⟩
    · have t1 : decide ((k : Int) < (rn : Int)) = false := fi_dec0 hkn
      have t1n : decide (k < rn) = false := fi_decn0 hkn
      clear HKID CW HG
      go_wp2
      exact ⟨rfl, .tuple #[], by simp [results, Tryz.results27], rfl, hg⟩
end Go.Proofs.YtbeinfhgfflneaaGreat
end
section
namespace Go.Proofs.YtbeinfhgfflneaaGreat
open Go.RowKit
set_option linter.unusedVariables false
def SameV (u u' : Value) : Prop := u = u' ∨ ∃ oa n c c', u = .slice oa n c ∧ u' = .slice oa n c' ∧ n ≤ c'
theorem SameV.refl (u : Value) : SameV u u := .inl rfl
theorem SameV.trans {u v x : Value} (h : SameV u v) (k : SameV v x) : SameV u x := by
  rcases h with rfl | ⟨oa, n, c, c', rfl, rfl, h3⟩
  · exact k
  · rcases k with rfl | ⟨oa2, n2, c2, c2', h1, rfl, h4⟩
    · exact .inr ⟨_, _, _, _, rfl, rfl, h3⟩
    · cases h1; exact .inr ⟨_, _, _, _, rfl, rfl, h4⟩
structure Cl (S : Nat → Prop) (w w' : World) : Prop where
  os : w'.os = w.os
  tape : w'.tape = w.tape
  output : w'.output = w.output
  size : w.heap.size ≤ w'.heap.size
  cell : ∀ b k u, w.cell? ⟨b, k, none⟩ = some u → ∃ u', w'.cell? ⟨b, k, none⟩ = some u' ∧ SameV u u'
  free : ∀ b k, b < w.heap.size → w'.frozen? ⟨b, k, none⟩ = w.frozen? ⟨b, k, none⟩
  block : ∀ b, b < w.heap.size → ¬ S b → w'.heap[b]? = w.heap[b]?
theorem Cl.of {S : Nat → Prop} {w w' : World} (h : Gr w w') : Cl S w w' := ⟨h.os, h.tape, h.output, h.size, fun b k u hu => ⟨u, h.keep hu, .refl u⟩, fun b k hb => h.frees b k hb, fun b hb _ => h.block b hb⟩
theorem Cl.refl (S : Nat → Prop) (w : World) : Cl S w w := .of (Gr.refl w)
theorem Cl.trans {S : Nat → Prop} {a b c : World} (h : Cl S a b) (k : Cl S b c) : Cl S a c := by
  refine ⟨k.os.trans h.os, k.tape.trans h.tape, k.output.trans h.output, Nat.le_trans h.size k.size, fun i j u hu => ?_, fun i j hi => ?_, fun i hi hS => ?_⟩
  · obtain ⟨u1, h1, s1⟩ := h.cell i j u hu
    obtain ⟨u2, h2, s2⟩ := k.cell i j u1 h1
    exact ⟨u2, h2, s1.trans s2⟩
  · rw [k.free i j (Nat.lt_of_lt_of_le hi h.size), h.free i j hi]
  · rw [k.block i (Nat.lt_of_lt_of_le hi h.size) hS, h.block i hi hS]
theorem Cl.mono {S S' : Nat → Prop} {w w' : World} (h : Cl S w w') (hS : ∀ b, b < w.heap.size → S b → S' b) : Cl S' w w' := ⟨h.os, h.tape, h.output, h.size, h.cell, h.free, fun b hb hn => h.block b hb (fun hs => hn (hS b hb hs))⟩
theorem Cl.gr {S : Nat → Prop} {a w w' : World} (h : Gr a w) (k : Cl S w w') (hS : ∀ b, S b → a.heap.size ≤ b) : Gr a w' :=
  ⟨k.os.trans h.os, k.tape.trans h.tape, k.output.trans h.output, Nat.le_trans h.size k.size, fun i hi => (k.block i (Nat.lt_of_lt_of_le hi h.size) (fun hs => by have := hS i hs; omega)).trans (h.block i hi)⟩
theorem Cl.cellv {S : Nat → Prop} {w : World} {b k : Nat} {u u' : Value} (h : w.cell? ⟨b, k, none⟩ = some u) (hu : SameV u u') (hS : S b) : Cl S w (w.setCell ⟨b, k, none⟩ u') := by
  refine ⟨rfl, rfl, rfl, by simp, fun i j x hx => ?_, fun i j hi => World.frozen?_setCell _ _ _ _, fun i hi hn => Below.heap_setCell _ _ _ i (fun e => hn (by rw [e]; exact hS))⟩
  by_cases e : (⟨b, k, none⟩ : Addr) = ⟨i, j, none⟩
  · cases e
    rw [h] at hx
    cases hx
    exact ⟨_, World.cell?_setCell_same _ _ _ h, hu⟩
  · exact ⟨x, by rw [World.cell?_setCell_other _ _ _ _ e]; exact hx, .refl x⟩
theorem Cl.cellsv {S : Nat → Prop} {b : Nat} (hS : S b) : ∀ (vs : List Value) (o : Nat) (w : World), (∀ j u', vs[j]? = some u' → ∃ u, w.cell? ⟨b, o + j, none⟩ = some u ∧ SameV u u') → Cl S w (w.setCells b o vs)
  | [], o, w, h => .refl S w
  | v :: vs, o, w, h => by
    obtain ⟨u, hu, hs⟩ := h 0 v rfl
    have h1 := Cl.cellv (S := S) (by simpa using hu) hs hS
    refine h1.trans (Cl.cellsv hS vs (o + 1) _ (fun j u' hj => ?_))
    obtain ⟨x, hx, hs'⟩ := h (j + 1) u' (by simpa using hj)
    refine ⟨x, ?_, hs'⟩
    rw [World.cell?_setCell_other _ _ _ _ (by simp), show o + 1 + j = o + (j + 1) by omega]
    exact hx
theorem Cl.new {S : Nat → Prop} {w wr W : World} (h : Cl S w wr) (ho : W.os = wr.os) (ht : W.tape = wr.tape) (hp : W.output = wr.output) (hz : wr.heap.size ≤ W.heap.size) (hb : ∀ b, b < w.heap.size → W.heap[b]? = wr.heap[b]?) : Cl S w W := by
  refine ⟨ho.trans h.os, ht.trans h.tape, hp.trans h.output, Nat.le_trans h.size hz, fun b k u hu => ?_, fun b k hl => ?_, fun b hl hn => (hb b hl).trans (h.block b hl hn)⟩
  · have hl := lt_of_cell hu
    obtain ⟨u', h1, h2⟩ := h.cell b k u hu
    exact ⟨u', by rw [World.cell?_of_block (w := wr) (hb b hl)]; exact h1, h2⟩
  · unfold World.frozen?
    rw [hb b hl]
    exact h.free b k hl
structure XR.Like (r r' : XR) : Prop where
  h : r'.h = r.h
  oa : r'.oa = r.oa
  n : r'.n = r.n
  cap : r.n ≤ r'.cap
theorem like_self {r : XR} (h : r.n ≤ r.cap) : r.Like r := ⟨rfl, rfl, rfl, h⟩
theorem row_cl {S : Nat → Prop} {w w' : World} (h : Cl S w w') {b off : Nat} : ∀ (rs : List XR) (i0 : Nat), (∀ r ∈ rs, r.n ≤ r.cap) → (∀ k (hk : k < rs.length) j u, (xF rs[k])[j]? = some u → w.cell? ⟨b, off + (i0 + k) * 12 + j, none⟩ = some u) →
    ∃ rs' : List XR, rs'.length = rs.length ∧ (∀ k (h1 : k < rs.length) (h2 : k < rs'.length), rs[k].Like rs'[k]) ∧ ∀ k (hk : k < rs'.length) j u, (xF rs'[k])[j]? = some u → w'.cell? ⟨b, off + (i0 + k) * 12 + j, none⟩ = some u
  | [], i0, _, _ => ⟨[], rfl, fun k h1 => by simp at h1, fun k h1 => by simp at h1⟩
  | r :: rs, i0, hn, hc => by
    obtain ⟨rs', h1, h2, h3⟩ := row_cl h rs (i0 + 1) (fun x hx => hn x (by simp [hx])) (fun k hk j u hu => by
      have := hc (k + 1) (by simp; omega) j u (by simpa using hu)
      rw [show i0 + 1 + k = i0 + (k + 1) by omega]; exact this)
    have c0 : ∀ j u, (xF r)[j]? = some u → ∃ u', w'.cell? ⟨b, off + i0 * 12 + j, none⟩ = some u' ∧ SameV u u' := fun j u hu => h.cell _ _ _ (by have := hc 0 (by simp) j u (by simpa using hu); simpa using this)
    obtain ⟨u11, d11, s11⟩ := c0 11 _ rfl
    have hx : ∃ c', u11 = .slice r.oa r.n c' ∧ r.n ≤ c' := by
      rcases s11 with e | ⟨oa, n, c, c', e1, e2, e3⟩
      · exact ⟨r.cap, e.symm, hn r (by simp)⟩
      · cases e1; exact ⟨c', e2, e3⟩
    obtain ⟨c', rfl, hc'⟩ := hx
    have same : ∀ j u, (xF r)[j]? = some u → j ≠ 11 → w'.cell? ⟨b, off + i0 * 12 + j, none⟩ = some u := fun j u hu hj => by
      obtain ⟨u', d, s⟩ := c0 j u hu
      rcases s with e | ⟨oa, n, c, c', e1, e2, e3⟩
      · rw [e]; exact d
      · exfalso
        rcases j with _ | _ | _ | _ | _ | _ | _ | _ | _ | _ | _ | _ | j <;> simp [xF] at hu <;> first | omega | (subst hu; cases e1)
    refine ⟨{ r with cap := c' } :: rs', by simp [h1], fun k a1 a2 => ?_, fun k hk j u hu => ?_⟩
    · cases k with
      | zero => exact ⟨rfl, rfl, rfl, hc'⟩
      | succ k => exact h2 k (by simpa using a1) (by simpa using a2)
    · cases k with
      | zero =>
        simp only [List.getElem_cons_zero, Nat.add_zero] at hu ⊢
        by_cases hj : j = 11
        · subst hj
          simp [xF] at hu
          subst hu
          exact d11
        · refine same j u ?_ hj
          rcases j with _ | _ | _ | _ | _ | _ | _ | _ | _ | _ | _ | _ | j <;> first | exact hu | (exfalso; omega)
      | succ k =>
        have := h3 k (by simpa using hk) j u (by simpa using hu)
        rw [show i0 + (k + 1) = i0 + 1 + k by omega]; exact this
theorem xrow_cl {S S' : Nat → Prop} {w w' : World} (h : Cl S' w w') {oa : Option Addr} {rs : List XR} (hx : XRow S w oa rs) (hn : ∀ r ∈ rs, r.n ≤ r.cap) :
    ∃ rs' : List XR, rs'.length = rs.length ∧ (∀ k (h1 : k < rs.length) (h2 : k < rs'.length), rs[k].Like rs'[k]) ∧ XRow S w' oa rs' := by
  rcases hx with rfl | ⟨b, off, e, hl, hs, hf, hr⟩
  · exact ⟨[], rfl, fun k h1 => by simp at h1, .inl rfl⟩
  · obtain ⟨rs', h1, h2, h3⟩ := row_cl h (b := b) (off := off) rs 0 hn (fun k hk j u hu => by rw [Nat.zero_add]; exact hr k hk j u hu)
    exact ⟨rs', h1, h2, .inr ⟨b, off, e, Nat.lt_of_lt_of_le hl h.size, hs, fun j => (h.free b j hl).trans (hf j), fun k hk j u hu => by have := h3 k hk j u hu; rw [Nat.zero_add] at this; exact this⟩⟩
theorem Ex.At.fits {S : Nat → Prop} {w : World} {x : Ex} {r : XR} (h : Ex.At S w x r) : r.n ≤ r.cap := by
  cases x
  unfold Ex.At at h
  exact h.2.2.1.1
theorem Ex.At.bound {S : Nat → Prop} {w : World} {x : Ex} {r : XR} (h : Ex.At S w x r) : r.n ≤ 2000000 := by
  cases x
  unfold Ex.At at h
  exact h.2.2.1.2
theorem Exs.At.fits {S : Nat → Prop} {w : World} : ∀ {xs : List Ex} {rs : List XR}, Exs.At S w xs rs → ∀ r ∈ rs, r.n ≤ r.cap
  | [], rs, h => by unfold Exs.At at h; subst h; simp
  | x :: xs, rs, h => by
    unfold Exs.At at h
    obtain ⟨r, rr, rfl, h2, h3⟩ := h
    intro q hq
    rcases List.mem_cons.1 hq with rfl | hq
    · exact h2.fits
    · exact h3.fits q hq
mutual
theorem Ex.At.cl {S S' : Nat → Prop} {w w' : World} (h : Cl S' w w') : ∀ {x : Ex} {r r' : XR}, Ex.At S w x r → r.Like r' → Ex.At S w' x r'
  | .mk hd ks, r, r', hx, hl => by
    unfold Ex.At at hx ⊢
    obtain ⟨h1, h2, h3, rs, h4, h5, h6⟩ := hx
    obtain ⟨rs', k1, k2, k3⟩ := xrow_cl h h5 h6.fits
    refine ⟨by rw [hl.h]; exact h1, by rw [hl.n]; exact h2, by rw [hl.n]; exact ⟨hl.cap, h3.2⟩, rs', by rw [k1]; exact h4, by rw [hl.oa]; exact k3, Exs.At.cl h h6 k1 k2⟩
theorem Exs.At.cl {S S' : Nat → Prop} {w w' : World} (h : Cl S' w w') : ∀ {xs : List Ex} {rs rs' : List XR}, Exs.At S w xs rs → rs'.length = rs.length → (∀ k (h1 : k < rs.length) (h2 : k < rs'.length), rs[k].Like rs'[k]) → Exs.At S w' xs rs'
  | [], rs, rs', hx, hl, hk => by
    unfold Exs.At at hx ⊢
    subst hx
    exact List.eq_nil_of_length_eq_zero (by simpa using hl)
  | x :: xs, rs, rs', hx, hl, hk => by
    unfold Exs.At at hx ⊢
    obtain ⟨r, rr, rfl, h2, h3⟩ := hx
    cases rs' with
    | nil => simp at hl
    | cons q qs =>
      exact ⟨q, qs, rfl, Ex.At.cl h h2 (hk 0 (by simp) (by simp)), Exs.At.cl h h3 (by simpa using hl) (fun k h1 h2 => hk (k + 1) (by simp; omega) (by simp; omega))⟩
end
theorem Ex.At.clS {S S' : Nat → Prop} {w w' : World} {x : Ex} {r : XR} (hx : Ex.At S w x r) (h : Cl S' w w') : Ex.At S w' x r := hx.cl h (like_self hx.fits)
theorem XsAt.cl {S S' : Nat → Prop} {w w' : World} {xs : List Ex} {oa : Option Addr} {n cap : Nat} (hx : XsAt S w xs oa n cap) (h : Cl S' w w') : XsAt S w' xs oa n cap := by
  obtain ⟨h1, h2, rs, h3, h4, h5⟩ := hx
  obtain ⟨rs', k1, k2, k3⟩ := xrow_cl h h4 h5.fits
  exact ⟨h1, h2, rs', k1.trans h3, k3, h5.cl h k1 k2⟩
end Go.Proofs.YtbeinfhgfflneaaGreat
end
section
namespace Go.Proofs.YtbeinfhgfflneaaGreat
open Go.RowKit
set_option linter.unusedVariables false
theorem as_good {s t : Ps} (h : As s t) (k : t.good = true) : s.good = true := by
  match t, k with
  | .ok l d, _ =>
    rcases h with h | h
    · cases h
    · cases s with
      | ok l' d' => rfl
      | bad e a => cases h
theorem fail_no (s : Ps) : ¬ (s.fail 180).good = true := by
  intro h
  match s, h with
  | .ok [] d, h => cases h
  | .ok (t :: r) d, h => cases h
  | .bad e a, h => cases h
theorem own_blk {w : World} {base g : Nat} {cs : Array Value} {r : XR} (h : w.heap[g]? = some (.cells cs 26 (0, 0))) (hcs : cs.toList = xF r) (hb : base ≤ g) : w.ownsRow base 26 12 (.slice (some ⟨g, 0, none⟩) 1 1) 1 (xF r) := by
  refine ⟨rfl, .inr ⟨g, 1, cs, rfl, hb, h, Nat.le_refl _, by decide, ?_, ?_⟩⟩
  · have := congrArg List.length hcs
    simpa [xF] using this
  · rw [hcs]; rfl
def LsS (p : Nat) (w : World) (S0 : Nat → Prop) (r : XR) (x : Ex) (q : List Ex × Ps) (s : Ps) (i2 i4 i5 : Nat) (D : Nat → Bool) (v : Nat → Value) (W : World) : Prop :=
  Go1 p w W ∧ (D i5 = true → D i2 = true ∧ D i4 = true) ∧ if D i5 then ∃ oa n cap xs, v i5 = .slice oa n cap ∧ XsAt (fun b => S0 b ∨ w.heap.size ≤ b) W (x :: xs) oa n cap ∧ PS p W q.2 ∧ (q.2.good = true → xs = q.1)
  else (D i4 = false → PS p W s) ∧ (D i2 = true → ∃ g, v i2 = .slice (some ⟨g, 0, none⟩) 1 1 ∧ w.heap.size ≤ g ∧ W.heap[g]? = some (.cells r.cells 26 (0, 0))) ∧
    (D i4 = true → ∃ oa n cap xs, v i4 = .slice oa n cap ∧ XsAt (fun b => w.heap.size ≤ b ∧ (D i2 = true → (v i2).ownBlock ≠ some b)) W xs oa n cap ∧ PS p W q.2 ∧ n ≤ 1000001 ∧ (oa = none → cap = 0) ∧ (q.2.good = true → xs = q.1))
section
variable {p : Nat} {w : World} {S0 : Nat → Prop} {r : XR} {x : Ex} {q : List Ex × Ps} {s : Ps} {i2 i4 i5 : Nat} {D : Nat → Bool} {v : Nat → Value} {W : World}
theorem LsS.go (h : LsS p w S0 r x q s i2 i4 i5 D v W) : Go1 p w W := h.1
theorem LsS.start (hps : PS p w s) (hG : Gr w W) (v : Nat → Value) : LsS p w S0 r x q s i2 i4 i5 (fun _ => false) v W :=
  ⟨.of hG, fun h => (by cases h), by simp; exact hps.keep hG⟩
theorem LsS.row (h25 : i2 ≠ i5) (h24 : i2 ≠ i4) (h5 : D i5 = false) (h2 : D i2 = false) (h : LsS p w S0 r x q s i2 i4 i5 D v W) :
    LsS p w S0 r x q s i2 i4 i5 (Rg.ins D i2) (Rg.upd v i2 (.slice (some ⟨W.heap.size, 0, none⟩) 1 1)) (W.alloc (.cells r.cells 26)) := by
  obtain ⟨hg, hd, h⟩ := h
  rw [h5] at h
  simp only [Bool.false_eq_true, if_false] at h
  obtain ⟨ha, hb, hc⟩ := h
  have hA := (Gr.refl W).alloc (.cells r.cells 26)
  have e5 : Rg.ins D i2 i5 = false := by simp [Rg.ins, Ne.symm h25, h5]
  have e4 : Rg.ins D i2 i4 = D i4 := by simp [Rg.ins, Ne.symm h24]
  have e2 : Rg.ins D i2 i2 = true := by simp [Rg.ins]
  have v4 : ∀ u, Rg.upd v i2 u i4 = v i4 := fun u => by simp [Rg.upd, Ne.symm h24]
  have v2 : ∀ u, Rg.upd v i2 u i2 = u := fun u => by simp [Rg.upd]
  refine ⟨hg.block2 hA, fun h => absurd h (by rw [e5]; decide), ?_⟩
  rw [e5]
  simp only [Bool.false_eq_true, if_false, e4, e2, v2, v4]
  refine ⟨fun h => (ha h).keep hA, fun _ => ⟨_, rfl, hg.size, alloc_at _ _⟩, fun h => ?_⟩
  obtain ⟨oa, n, cap, xs, k1, k2, k3, k4, k5, k6⟩ := hc h
  refine ⟨oa, n, cap, xs, k1, ?_, k3.keep hA, k4, k5, k6⟩
  refine (k2.mono (fun b hb hs => ⟨hs.1, fun _ e => ?_⟩)).of hA.size (fun b _ hb => hA.block b hb)
  simp [Value.ownBlock] at e
  omega
theorem LsS.call {u : Value} {W' : World} (hpw : p < w.heap.size) (h45 : i4 ≠ i5) (h24 : i2 ≠ i4) (h5 : D i5 = false) (h : LsS p w S0 r x q s i2 i4 i5 D v W) (hR : Rxs p W q u W') :
    LsS p w S0 r x q s i2 i4 i5 (Rg.ins D i4) (Rg.upd v i4 u) W' := by
  obtain ⟨hg, hd, h⟩ := h
  rw [h5] at h
  simp only [Bool.false_eq_true, if_false] at h
  obtain ⟨ha, hb, hc⟩ := h
  obtain ⟨oa, n, cap, xs, rfl, k2, k3, k4, k5, k6, k7⟩ := hR
  have e5 : Rg.ins D i4 i5 = false := by simp [Rg.ins, Ne.symm h45, h5]
  have e4 : Rg.ins D i4 i4 = true := by simp [Rg.ins]
  have e2 : Rg.ins D i4 i2 = D i2 := by simp [Rg.ins, h24]
  have v4 : ∀ u, Rg.upd v i4 u i4 = u := fun u => by simp [Rg.upd]
  have v2 : ∀ u, Rg.upd v i4 u i2 = v i2 := fun u => by simp [Rg.upd, h24]
  refine ⟨hg.trans k4, fun h => absurd h (by rw [e5]; decide), ?_⟩
  rw [e5]
  simp only [Bool.false_eq_true, if_false, e4, e2, v2, v4]
  refine ⟨fun h => absurd h (by decide), fun h => ?_, fun _ => ⟨oa, n, cap, xs, rfl, k2.mono (fun b hl hs => ⟨Nat.le_trans hg.size hs, fun h e => ?_⟩), k3, k5, k6, k7⟩⟩
  · obtain ⟨g, g1, g2, g3⟩ := hb h
    have hgl : g < W.heap.size := (Array.getElem?_eq_some_iff.1 g3).1
    exact ⟨g, g1, g2, by rw [k4.get hgl (by omega)]; exact g3⟩
  · obtain ⟨g, g1, g2, g3⟩ := hb h
    have hgl : g < W.heap.size := (Array.getElem?_eq_some_iff.1 g3).1
    rw [g1] at e
    simp [Value.ownBlock] at e
    have : W.heap.size ≤ b := hs
    omega
theorem LsS.ready (h5 : D i5 = false) (h4 : D i4 = false) (h : LsS p w S0 r x q s i2 i4 i5 D v W) : PS p W s := by
  obtain ⟨hg, hd, h⟩ := h
  rw [h5] at h
  simp only [Bool.false_eq_true, if_false] at h
  exact h.1 h4
theorem info_size {P : Program} {t : TypeId} {z : Value} {a b : Nat} (h : (P.info? t).map (fun i => (i.zero, i.size, i.bytes)) = some (some z, a, b)) : ∃ i, P.info? t = some i ∧ i.zero = some z ∧ i.size = a ∧ i.bytes = b := by
  cases hi : P.info? t with
  | none => rw [hi] at h; cases h
  | some i => rw [hi] at h; simp at h; exact ⟨i, rfl, h.1, h.2.1, h.2.2⟩
theorem LsS.append (hpw : p < w.heap.size) (h25 : i2 ≠ i5) (h45 : i4 ≠ i5) (h5 : D i5 = false) (h4 : D i4 = true) (h2 : D i2 = true) (hx : Ex.At S0 w x r) (hS0 : ∀ b, S0 b → b ≠ p) (ty : TypeId) (h : LsS p w S0 r x q s i2 i4 i5 D v W) :
    ∃ v1 v2 v' W', v i2 = v1 ∧ v i4 = v2 ∧ (Builtin.append_ #[24, 24] ty #[v1, v2]).run Tryz.prog W = .ok v' W' ∧ LsS p w S0 r x q s i2 i4 i5 (Rg.ins D i5) (Rg.upd v i5 v') W' := by
  obtain ⟨hg, hd, h⟩ := h
  rw [h5] at h
  simp only [Bool.false_eq_true, if_false] at h
  obtain ⟨ha, hb, hc⟩ := h
  obtain ⟨g, g1, g2, g3⟩ := hb h2
  obtain ⟨oa, n, cap, xs, k1, k2, k3, k4, k5, k6⟩ := hc h4
  have hgl : g < W.heap.size := (Array.getElem?_eq_some_iff.1 g3).1
  rw [g1] at k2
  obtain ⟨l1, l2, rs, l3, l4, l5⟩ := k2
  obtain ⟨i0, hi0, hz0, hz1, hz2⟩ := info_size x_info
  have hwz := hg.size
  obtain ⟨v', W', hrun, r1, r2, r3⟩ := runs_append (P := Tryz.prog) W 24 ty w.heap.size 26 i0 _ 12 128 Tryz.underlying24 hi0 hz0 hz1 hz2 rfl (by decide) g 1 1 (xF r) (own_blk (w := W) (base := w.heap.size) g3 rfl g2) oa n cap (cellsF xF rs)
    (by rw [xE.cells_len, l3, ← l1]) (fun e => by subst e; have := k5 rfl; have := l2.1; omega) (fun ad had j u hu => by
      rcases l4 with l4 | ⟨b, off, e, hbl, hs, hf, hr⟩
      · subst l4; simp [cellsF] at hu
      · subst e; cases had; exact RowF.cells xE hr j u hu) (xE.cells_one rs) (by unfold maxLen; omega) (by omega) (by omega)
  refine ⟨_, _, v', W', g1, k1, hrun, ?_⟩
  have hz := r2.size
  have keepB : ∀ b, b < W.heap.size → b ≠ g → W'.heap[b]? = W.heap[b]? := fun b hb hne => r2.block b hb (fun e => by simp [Value.ownBlock] at e; exact hne e)
  have hGo : Go1 p w W' := hg.trans' r2 (fun g' e => by simp [Value.ownBlock] at e; omega)
  refine ⟨hGo, fun _ => ⟨by simp [Rg.ins, h2], by simp [Rg.ins, h4]⟩, ?_⟩
  rw [show Rg.ins D i5 i5 = true by simp [Rg.ins]]
  simp only [if_true, upd_same]
  have hlen : (r :: rs).length = 1 + n := by simp [l3, l1]; omega
  have r1' : W'.ownsRow w.heap.size 26 12 v' (r :: rs).length (cellsF xF (r :: rs)) := by rw [hlen]; exact r1
  obtain ⟨oa', cap', rfl, hc', hrow, _⟩ := own_row (S := fun b => S0 b ∨ w.heap.size ≤ b) r1' (fun b hb _ => .inr hb)
  refine ⟨oa', (r :: rs).length, cap', xs, rfl, ⟨by simp [l3], ⟨hc', by show (r :: rs).length ≤ 2000000; rw [hlen]; omega⟩, r :: rs, by simp [l3], hrow, Exs.At.cons ?_ ?_⟩, k3.low hz (fun i hi hl => keepB i hl (by omega)), k6⟩
  · refine (((hx.mono (S' := fun b => S0 b ∧ b < w.heap.size) (fun b hl hs => ⟨hs, hl⟩)).of hwz (fun b hb hl => hg.get hl (hS0 b hb.1))).of hz (fun b hb hl => keepB b hl (by have := hb.2; omega))).mono (fun b _ hb => .inl hb.1)
  · refine (l5.of hz (fun b hb hl => keepB b hl (fun e => ?_))).mono (fun b _ hb => .inr hb.1)
    exact hb.2 h2 (by simp [Value.ownBlock, e])
theorem LsS.n2 (h2 : D i2 = false) (h : LsS p w S0 r x q s i2 i4 i5 D v W) : D i5 = false := by
  cases h5 : D i5 with
  | false => rfl
  | true => have := (h.2.1 h5).1; rw [h2] at this; cases this
theorem LsS.n4 (h4 : D i4 = false) (h : LsS p w S0 r x q s i2 i4 i5 D v W) : D i5 = false := by
  cases h5 : D i5 with
  | false => rfl
  | true => have := (h.2.1 h5).2; rw [h4] at this; cases this
theorem LsS.fin (h5 : D i5 = true) (h : LsS p w S0 r x q s i2 i4 i5 D v W) : ∃ oa n cap xs, v i5 = .slice oa n cap ∧ XsAt (fun b => S0 b ∨ w.heap.size ≤ b) W (x :: xs) oa n cap ∧ PS p W q.2 ∧ (q.2.good = true → xs = q.1) := by
  obtain ⟨hg, hd, h⟩ := h
  rw [h5] at h
  simpa only [if_true] using h
end
theorem alloc_at' (w : World) (o : Obj) (n : Nat) (h : n = w.heap.size) : (w.alloc o).heap[n]? = some o := by subst h; exact alloc_at w o
end Go.Proofs.YtbeinfhgfflneaaGreat
end
section
namespace Go.Proofs.YtbeinfhgfflneaaGreat
open Go.RowKit
set_option linter.unusedSimpArgs false
set_option linter.unusedVariables false
attribute [local go_sem] Rg.leads_value Rg.leads_skip Rg.leads_enter Rg.brings_value Rg.brings_skip Rg.brings_enter Rg.bringsG_value Rg.bringsG_enter Rg.once_normal Rg.once_exit Rg.once_ret Rg.once_panic Rg.once_goto Rg.bringsS_value Rg.bringsS_skip Rg.bringsS_enter Rg.still_value Rg.still_skip Rg.still_enter
mutual
def Ex.sz : Ex → Nat
  | .mk _ ks => Exs.sz ks + 1
def Exs.sz : List Ex → Nat
  | [] => 0
  | x :: xs => Ex.sz x + Exs.sz xs
end
theorem sz_get : ∀ (xs : List Ex) (k : Nat) (h : k < xs.length), Ex.sz xs[k] ≤ Exs.sz xs
  | [], k, h => by simp at h
  | x :: xs, 0, h => by show Ex.sz x ≤ Exs.sz (x :: xs); unfold Exs.sz; omega
  | x :: xs, k + 1, h => by
    have h' : k < xs.length := by simpa using h
    have := sz_get xs k h'
    show Ex.sz xs[k] ≤ Exs.sz (x :: xs)
    rw [Exs.sz]; omega
set_option maxHeartbeats 4000000 in
set_option maxRecDepth 100000 in
theorem clip_any (oa : Option Addr) (n cap : Nat) (h : n ≤ cap) (w : World) : Calls Tryz.prog 31 #[.slice oa n cap] w fun e w' => e = .returned (.slice oa n n) ∧ w' = w := by
  have g1 : (n : Int) ≤ (cap : Int) := by omega
  go_enter Tryz.func31, Tryz.ntmps31
  go_wp2
  go_ret
  exact ⟨rfl, rfl⟩
theorem st_mid {P : Program} {ops : Array Oper} {rest : List Oper} {o : Oper} {a : Act} {w : World} {Q : Exit → Act → World → Prop} {ty : TypeId} {x y : Operand} {S : Nat → Prop} (ho : o.op = .store ty x y) (hgd : o.guard = none)
    (b off : Nat) (cells : Array Value) (hx : a.eval x = .pointer (some ⟨b, off, none⟩)) (hy : a.eval y = .agg cells)
    (hsame : ∀ j u', cells.toList[j]? = some u' → ∃ u, w.cell? ⟨b, off + j, none⟩ = some u ∧ SameV u u') (hfr : ∀ j, w.frozen? ⟨b, j, none⟩ = false) (hS : S b)
    (hi : (P.info? ty).map (·.size) = some cells.size) (h1 : cells.all (·.oneCell') = true)
    (hK : ∀ W, Cl S w W → wpList P ops Q rest (a.put o.dst undef) W) : wpList P ops Q (o :: rest) a w :=
  wpList_store_mid hgd ty x y ho b off cells hx hy (fun j hj => ⟨by
    obtain ⟨u, hu, _⟩ := hsame j cells[j] (by simp [hj])
    rw [hu]; rfl, hfr _⟩) hi h1 (hK _ (Cl.cellsv hS _ _ _ hsame))
def RC (S : Nat → Prop) (rk : XR) (W0 : World) (u : Value) (W : World) : Prop := u = XR.val { rk with cap := rk.n } ∧ Cl S W0 W
theorem late_cl {S : Nat → Prop} {idx s : Nat} {w W : World} {rk : XR} {v : Nat → Value} (h : Late idx w (RC S rk) s v W) : Cl S w W := by
  unfold Late at h
  split at h
  · exact .of h
  · obtain ⟨W0, h1, _, h2⟩ := h; exact (Cl.of h1).trans h2
theorem same_row {S : Nat → Prop} {w W : World} {b o : Nat} {rk : XR} (hc : ∀ j u, (xF rk)[j]? = some u → w.cell? ⟨b, o + j, none⟩ = some u) (h : Cl S w W) : ∀ j u', (xF { rk with cap := rk.n })[j]? = some u' → ∃ u, W.cell? ⟨b, o + j, none⟩ = some u ∧ SameV u u' := by
  intro j u' hu'
  have hj : j < 12 := by have := (List.getElem?_eq_some_iff.1 hu').1; simpa [xF] using this
  by_cases e : j = 11
  · subst e
    simp [xF] at hu'
    subst hu'
    obtain ⟨u2, h1, h2⟩ := h.cell _ _ _ (hc 11 _ rfl)
    rcases h2 with e | ⟨oa, n, c, c', e1, e2, e3⟩
    · exact ⟨u2, h1, by rw [← e]; exact .inr ⟨_, _, _, _, rfl, rfl, Nat.le_refl _⟩⟩
    · cases e1
      exact ⟨u2, h1, by rw [e2]; exact .inr ⟨_, _, _, _, rfl, rfl, Nat.le_refl _⟩⟩
  · have hu : (xF rk)[j]? = some u' := by
      rcases j with _ | _ | _ | _ | _ | _ | _ | _ | _ | _ | _ | _ | j <;> first | exact hu' | (exfalso; omega)
    obtain ⟨u2, h1, h2⟩ := h.cell _ _ _ (hc j u' hu)
    rcases h2 with e' | ⟨oa, n, c, c', e1, e2, e3⟩
    · exact ⟨u2, h1, by rw [← e']; exact .refl _⟩
    · exact ⟨u2, h1, by rw [e1, e2]; exact .inr ⟨_, _, _, _, rfl, rfl, by
        exfalso
        rcases j with _ | _ | _ | _ | _ | _ | _ | _ | _ | _ | _ | _ | j <;> simp [xF] at hu <;> first | omega | (subst hu; cases e1)⟩⟩
set_option maxHeartbeats 8000000 in
set_option maxRecDepth 100000 in
theorem clipped_step (x : Ex) (rh : Hd) (roa : Option Addr) (rn rcap : Nat) (S : Nat → Prop) (w : World) (hx : Ex.At S w x ⟨rh, roa, rn, rcap⟩)
    (hrec : ∀ y r' w', Ex.sz y < Ex.sz x → Ex.At (fun b => S b ∧ b < w.heap.size) w' y r' → Calls Tryz.prog 23 #[XR.val r'] w' fun e w2 => e = .returned (XR.val { r' with cap := r'.n }) ∧ Cl (fun b => S b ∧ b < w.heap.size) w' w2) :
    Calls Tryz.prog 23 #[XR.val ⟨rh, roa, rn, rcap⟩] w fun e w' => e = .returned (XR.val ⟨rh, roa, rn, rn⟩) ∧ Cl S w w' := by
  have hx1 : Ex.At (fun b => S b ∧ b < w.heap.size) w x ⟨rh, roa, rn, rcap⟩ := hx.mono (fun b hb hs => ⟨hs, hb⟩)
  have hfit : rn ≤ rcap := hx.fits
  have hbd : rn ≤ 2000000 := hx.bound
  obtain ⟨wA, hwA⟩ : ∃ wA, (w.alloc (.cells (XR.cells ⟨rh, roa, rn, rcap⟩) 26)).alloc (.cells zeroX 26) = wA := ⟨_, rfl⟩
  have hGA : Gr w wA := by rw [← hwA]; exact ((Gr.refl w).alloc _).alloc _
  have hB1 : wA.heap[w.heap.size]? = some (.cells (XR.cells ⟨rh, roa, rn, rcap⟩) 26 (0, 0)) := by rw [← hwA, ((Gr.refl _).alloc _).block _ (by simp)]; exact alloc_at _ _
  have hR0 : wA.heap[w.heap.size + 1]? = some (.cells zeroX 26 (0, 0)) := by rw [← hwA]; exact alloc_at' _ _ _ (World.size_alloc _ _).symm
  have hzA : wA.heap.size = w.heap.size + 2 := by rw [← hwA]; simp
  obtain ⟨ks, hks, hn⟩ : ∃ ks : List Ex, (∀ S w r, Ex.At S w x r → ∃ rs, rs.length = ks.length ∧ XR.n r = ks.length ∧ XRow S w (XR.oa r) rs ∧ Exs.At S w ks rs) ∧ ∀ k (h : k < ks.length), Ex.sz ks[k] < Ex.sz x := by
    cases x with
    | mk hd ks =>
      refine ⟨ks, fun S w r h => ?_, fun k h => ?_⟩
      · unfold Ex.At at h
        obtain ⟨_, a, _, rs, b, c, d⟩ := h
        exact ⟨rs, b, a, c, d⟩
      · have := sz_get ks k h
        rw [Ex.sz]; omega
  have hlen : rn = ks.length := by obtain ⟨rs, _, h, _⟩ := hks _ _ _ hx; exact h
  have HLEN := hid hlen
  clear hlen
  have HX := hid hx1
  have HB := hid hB1
  have HR := hid hR0
  have HW := hid hwA
  clear hx hx1 hB1 hR0 hwA
  unfold XR.val
  go_enter Tryz.func23, Tryz.ntmps23
  go_wp2_with fail
  rw [HW.out]
  go_loopw [8] (fun s8 wr => ∃ k : Nat, s8 = .int .i64 (k : Int) ∧ k ≤ rn ∧ Cl (fun b => S b ∧ b < w.heap.size) wA wr) (fun s8 _ => rn - (intOf s8).toNat)
  · exact ⟨0, rfl, by omega, .refl _ _⟩
  · obtain ⟨k, rfl, hk, hcl⟩ := hrel
    have hzr := hcl.size
    have hB1 : wr.heap[w.heap.size]? = some (.cells (XR.cells ⟨rh, roa, rn, rcap⟩) 26 (0, 0)) := (hcl.block _ (by omega) (fun h => by omega)).trans HB.out
    have hR0 : wr.heap[w.heap.size + 1]? = some (.cells zeroX 26 (0, 0)) := (hcl.block _ (by omega) (fun h => by omega)).trans HR.out
    have HXr := hid ((HX.out.of hGA.size (fun b _ hb => hGA.block b hb)).clS hcl)
    by_cases hkn : k < rn
    · have t0 : decide ((k : Int) < (rn : Int)) = true := by rw [decide_eq_true_iff]; omega
      have g1 : (k : Int) < (rn : Int) := by omega
      have hwk : wrap64 ((k : Int) + 1) = (k : Int) + 1 := by unfold wrap64; omega
      obtain ⟨rs, hl1, hl20, hrow, hats⟩ := hks _ _ _ HXr.out
      have hl2 : rn = ks.length := hl20
      clear hl20
      have hkl : k < rs.length := by rw [hl1, ← hl2]; exact hkn
      have hkk : k < ks.length := by rw [← hl2]; exact hkn
      have hat := hats.get k hkk hkl
      rcases hrow with h0 | ⟨b, off, hoa, hbl, hSb, hfr, hr⟩
      · rw [h0] at hkl; simp at hkl
      have hoa' : roa = some ⟨b, off, none⟩ := hoa
      clear hoa
      subst hoa'
      have hrk := hr k hkl
      obtain ⟨rk, hrk0⟩ : ∃ rk, rs[k] = rk := ⟨_, rfl⟩
      rw [hrk0] at hat hrk
      have HRK := hid hrk
      have k0 := hrk 0 _ rfl
      have k1 := hrk 1 _ rfl
      have k2 := hrk 2 _ rfl
      have k3 := hrk 3 _ rfl
      have k4 := hrk 4 _ rfl
      have k5 := hrk 5 _ rfl
      have k6 := hrk 6 _ rfl
      have k7 := hrk 7 _ rfl
      have k8 := hrk 8 _ rfl
      have k9 := hrk 9 _ rfl
      have k10 := hrk 10 _ rfl
      have k11 := hrk 11 _ rfl
      simp only [Nat.add_zero] at k0
      have HAT := hid hat
      have HFR := hid hfr
      have HREC : Hid (∀ w', Ex.At (fun b => S b ∧ b < w.heap.size) w' (ks[k]'hkk) rk → _) := hid (fun w' => hrec (ks[k]'hkk) rk w' (hn k hkk))
      have hbA : b < w.heap.size := hSb.2
      have cB := Rg.blk_cells hB1
      simp only [XR.cells] at cB
      have HCL := hid hcl
      clear hrk hat hats hr hks hrec hn hB1 hR0 hcl hfr HXr hl1 hl2 hrk0 hkl
      go_wp2_with fail
      have hA4 := (Gr.refl wr).alloc (.cells rk.cells 26)
      refine Rg.region_chain 5 [4] [] (Late 4 (wr.alloc (.cells rk.cells 26)) (RC (fun b => S b ∧ b < w.heap.size) rk)) [some (.pointer (some ⟨w.heap.size, 11, none⟩)), some (.slice (some ⟨b, off, none⟩) rn rcap), some (.int .i64 (k : Int)), some (.agg #[.int .i64 rk.h.op, .int .i64 rk.h.v.t, .int .i64 rk.h.v.n, .string rk.h.v.s, .bool rk.h.v.b, .string rk.h.tab, .string rk.h.name, .int .i64 rk.h.t, .int .i64 rk.h.c, .bool rk.h.nt, .bool rk.h.st, .slice rk.oa rk.n rk.cap]), none]
        (fun v => late0 ((Gr.refl _).drew)) (by kernel_rfl) (by kernel_rfl) (by kernel_rfl) (by kernel_rfl) (fun _ _ d _ _ h => by cases d <;> exact h) ?_
      intro OPS _ v
      simp only [List.take_succ_cons, List.take_zero, Rg.wpC, Rg.wpS, Option.getD_some, Option.getD_none, Act.put, List.setIfInBounds_toArray, List.set_cons_zero, List.set_cons_succ, show List.contains [4] 0 = false from rfl, show List.contains [4] 1 = false from rfl, show List.contains [4] 2 = false from rfl, show List.contains [4] 3 = false from rfl, show List.contains [4] 4 = true from rfl, Bool.false_eq_true, if_false, if_true, Nat.reduceAdd]
      have hBl : w.heap.size < wr.heap.size := by omega
      have fB : ∀ W, Cl (fun b => S b ∧ b < w.heap.size) (wr.alloc (.cells rk.cells 26)) W → W.cell? ⟨w.heap.size, 11, none⟩ = some (.slice (some ⟨b, off, none⟩) rn rcap) ∧ ∀ i, W.cell? ⟨wr.heap.size, i, none⟩ = (rk.cells)[i]? := fun W h => by
        refine ⟨?_, fun i => ?_⟩
        · rw [World.cell?_of_block (w := wr.alloc (.cells rk.cells 26)) (h.block _ (by simp; omega) (fun h => Nat.lt_irrefl _ h.2)), World.cell?_of_block (w := wr) (hA4.block _ hBl), cB]
          rfl
        · rw [World.cell?_of_block (w := wr.alloc (.cells rk.cells 26)) (h.block _ (by simp) (fun h => by have : wr.heap.size < w.heap.size := h.2; omega)), Rg.blk_cells (alloc_at _ _)]
      refine ⟨?_, ?_, ?_, ?_, ?_, ?_⟩
      · refine sc_still (by rfl) (by rfl) (fun s' W _ hS => ?_)
        go_simp
      · refine sc_still (by rfl) (by rfl) (fun s' W _ hS => ?_)
        obtain ⟨cW, _⟩ := fB W (late_cl hS)
        go_simp
      · refine sc_still (by rfl) (by rfl) (fun s' W _ hS => ?_)
        go_simp
      · refine sc_still (by rfl) (by rfl) (fun s' W _ hS => ?_)
        obtain ⟨_, cW⟩ := fB W (late_cl hS)
        simp only [XR.cells] at cW
        go_simp
      · refine sc_new (by rfl) (by rfl) (fun W hS => ?_)
        have hg := late_0 hS
        have hH := HREC.out W ((HAT.out.of hA4.size (fun b _ hb => hA4.block b hb)).of hg.size (fun b _ hb => hg.block b hb))
        unfold XR.val at hH
        go_simp
        refine hH.mono ?_
        rintro e w' ⟨rfl, hu⟩
        exact ⟨_, rfl, late1 ⟨W, hg, by rw [upd_same]; exact ⟨rfl, hu⟩⟩⟩
      · intro W hS
        have hclW := late_cl hS
        obtain ⟨W0, hg0, hu, _⟩ := late_1 hS
        generalize v 4 = vv at *
        subst hu
        simp only [List.drop_succ_cons, List.drop_zero]
        have hclA := (Cl.of (S := fun b => S b ∧ b < w.heap.size) hA4).trans hclW
        have HSR := hid (same_row (b := b) (o := off + k * 12) (fun j u hu => HRK.out j u hu) hclA)
        have HFW := hid (fun j => (hclA.free b j (by omega)).trans (HFR.out j))
        have HFIN := hid (fun W5 (h : Cl (fun b => S b ∧ b < w.heap.size) W W5) => (HCL.out.trans hclA).trans h)
        clear hclW hS hg0 hclA fB HREC HAT hA4 HFR HRK HCL
        unfold XR.val
        go_wp2_with (guard_target =~ wpList _ _ _ (Oper.mk _ (Op.store 26 _ _) _ _ _ _ :: _) _ _; refine st_mid (S := fun b => S b ∧ b < w.heap.size) (ty := 26) rfl rfl b (off + k * 12) _ rfl rfl (HSR.out) HFW.out hSb (by kernel_rfl) (by kernel_rfl) ?_; intro W5 hW5; have HC5 := hid (HFIN.out W5 hW5))
        exact ⟨⟨k + 1, by go_num, by omega, HC5.out⟩, by simp [intOf]; omega⟩
    · have t0 : decide ((k : Int) < (rn : Int)) = false := by rw [decide_eq_false_iff_not]; omega
      have cB := Rg.blk_cells hB1
      have b0 : wr.cell? ⟨w.heap.size, 0, none⟩ = some (.int .i64 rh.op) := cB 0
      have b1 : wr.cell? ⟨w.heap.size, 1, none⟩ = some (.int .i64 rh.v.t) := cB 1
      have b2 : wr.cell? ⟨w.heap.size, 2, none⟩ = some (.int .i64 rh.v.n) := cB 2
      have b3 : wr.cell? ⟨w.heap.size, 3, none⟩ = some (.string rh.v.s) := cB 3
      have b4 : wr.cell? ⟨w.heap.size, 4, none⟩ = some (.bool rh.v.b) := cB 4
      have b5 : wr.cell? ⟨w.heap.size, 5, none⟩ = some (.string rh.tab) := cB 5
      have b6 : wr.cell? ⟨w.heap.size, 6, none⟩ = some (.string rh.name) := cB 6
      have b7 : wr.cell? ⟨w.heap.size, 7, none⟩ = some (.int .i64 rh.t) := cB 7
      have b8 : wr.cell? ⟨w.heap.size, 8, none⟩ = some (.int .i64 rh.c) := cB 8
      have b9 : wr.cell? ⟨w.heap.size, 9, none⟩ = some (.bool rh.nt) := cB 9
      have b10 : wr.cell? ⟨w.heap.size, 10, none⟩ = some (.bool rh.st) := cB 10
      have b11 : wr.cell? ⟨w.heap.size, 11, none⟩ = some (.slice roa rn rcap) := cB 11
      have f0 := Rg.blk_free hB1
      have H05 : Hid (∀ u, (wr.setCell ⟨w.heap.size, 11, none⟩ u).heap[w.heap.size + 1]? = some (.cells zeroX 26 (0, 0))) := hid (fun u => by rw [Below.heap_setCell _ _ _ _ (by simp)]; exact hR0)
      have FI : Hid (∀ u W5, Go1 (w.heap.size + 1) (wr.setCell ⟨w.heap.size, 11, none⟩ u) W5 → Cl S w W5) := hid (fun u W5 h5 => by
        have h1 : Cl S w wr := ((Cl.of hGA).trans hcl).mono (fun b _ hs => hs.1) |> fun h => h
        refine h1.new h5.os h5.tape h5.output (by have := h5.size; simpa using this) (fun b hb => ?_)
        rw [h5.get (by simp; omega) (by omega), Below.heap_setCell _ _ _ _ (by simp; omega)])
      clear hcl HXr hks hn hrec hB1 hR0 HX HB HR HW HLEN cB
      go_wp2_with (first | (go_at_call 31; refine (clip_any roa rn rcap hfit _).mono ?_; rintro e w' ⟨rfl, rfl⟩) | (guard_target =~ wpList _ _ _ (Oper.mk _ (Op.store 26 _ _) _ _ _ _ :: _) _ _; refine st_row (ty := 26) rfl rfl (w.heap.size + 1) _ rfl rfl 26 _ (H05.out _) (by kernel_rfl) rfl (by kernel_rfl) ?_; intro W5 hW5 gW5 zW5))
      (try change bodyPost _ _ _ _ _ _)
      have hT := Rg.blk_cells hW5
      refine bodyPost_ret (v := XR.val ⟨rh, roa, rn, rn⟩) (by simp [results, Tryz.results23, go_sem, XR.val, nul, hT]; try rfl) rfl ⟨rfl, FI.out _ W5 gW5⟩
theorem clipped_any : ∀ (N : Nat) (x : Ex), Ex.sz x ≤ N → ∀ (r : XR) (S : Nat → Prop) (w : World), Ex.At S w x r → Calls Tryz.prog 23 #[XR.val r] w fun e w' => e = .returned (XR.val { r with cap := r.n }) ∧ Cl S w w'
  | 0, x, h, r, S, w, hx => by cases x; rw [Ex.sz] at h; omega
  | N + 1, x, h, r, S, w, hx => clipped_step x r.h r.oa r.n r.cap S w hx (fun y r' w' hy hat => clipped_any N y (by omega) r' _ w' hat)
end Go.Proofs.YtbeinfhgfflneaaGreat
end
section
namespace Go.Proofs.YtbeinfhgfflneaaGreat
open Go.RowKit
set_option linter.unusedSimpArgs false
set_option linter.unusedVariables false
attribute [local go_sem] Rg.leads_value Rg.leads_skip Rg.leads_enter Rg.brings_value Rg.brings_skip Rg.brings_enter Rg.bringsG_value Rg.bringsG_enter Rg.once_normal Rg.once_exit Rg.once_ret Rg.once_panic Rg.once_goto
theorem run_store_func {P : Program} {w : World} {a : Addr} {m : Mode} (f : Fn) (ts cs : Array Value) : (store a (.func f ts cs) m).run P w = stored P w a (.func f ts cs) m := run_store P w a _ m rfl
attribute [local go_sem] run_store_func
theorem walk_any (go gw : Nat) : ∀ (N : Nat) (x : Ex), x.forms ≤ N → Ex.noAgg x = true → ∀ (r : XR) (w : World), Ex.At Al w x r → w.cell? ⟨gw, 0, none⟩ = some (.func (.func 27) #[] #[.pointer (some ⟨go, 0, none⟩), .pointer (some ⟨gw, 0, none⟩)]) →
    Calls Tryz.prog 27 #[XR.val r, .pointer (some ⟨go, 0, none⟩), .pointer (some ⟨gw, 0, none⟩)] w fun e w' => e = .returned (.tuple #[]) ∧ Gr w w'
  | 0, x, hN, _, _, _, _, _ => by cases x; rw [Ex.forms] at hN; omega
  | N + 1, .mk h ks, hN, hna, ⟨rh, roa, rn, rc⟩, w, hx, cw => by
    have e1 : rh = h := by
      unfold Ex.At at hx
      exact hx.1
    subst e1
    rw [Ex.noAgg, Bool.and_eq_true] at hna
    rw [Ex.forms] at hN
    refine walk_step rh ks roa rn rc go gw w hx (by simpa [bne] using hna.1) cw (fun y hy r' W hW hx' => walk_any go gw N y (by have := forms_mem ks y hy; omega) (noagg_mem ks hna.2 y hy) r' W hx' (hW.keep cw))
set_option maxHeartbeats 8000000 in
set_option maxRecDepth 100000 in
theorem aggs_one (x : Ex) (hna : Ex.noAgg x = true) (r : XR) (g : Nat) (w : World) (hx : Ex.At Al w x r) (hcs : ∀ i u, (xF r)[i]? = some u → w.cell? ⟨g, i, none⟩ = some u) : Calls Tryz.prog 17 #[.slice (some ⟨g, 0, none⟩) 1 1] w fun e w' => e = .returned (.slice none 0 0) ∧ Gr w w' := by
  have HX := hid hx
  have HCS := hid hcs
  have hgl : g < w.heap.size := lt_of_cell (hcs 0 _ rfl)
  clear hx hcs
  go_enter Tryz.func17, Tryz.ntmps17
  go_wp2_with fail
  have hG0 : Gr w ((w.alloc (.cells #[.slice none 0 0] 24)).alloc (.cells #[(.func (.func 27) #[] #[.pointer (some ⟨w.heap.size, 0, none⟩), .pointer (some ⟨w.heap.size + 1, 0, none⟩)])] 75)) := ((Gr.refl w).alloc _).alloc _
  have hcw : (((w.alloc (.cells #[.slice none 0 0] 24)).alloc (.cells #[(.func (.func 27) #[] #[.pointer (some ⟨w.heap.size, 0, none⟩), .pointer (some ⟨w.heap.size + 1, 0, none⟩)])] 75))).cell? ⟨w.heap.size + 1, 0, none⟩ = some (.func (.func 27) #[] #[.pointer (some ⟨w.heap.size, 0, none⟩), .pointer (some ⟨w.heap.size + 1, 0, none⟩)]) := Rg.blk_cells (alloc_two _ _ _) 0
  have hco : (((w.alloc (.cells #[.slice none 0 0] 24)).alloc (.cells #[(.func (.func 27) #[] #[.pointer (some ⟨w.heap.size, 0, none⟩), .pointer (some ⟨w.heap.size + 1, 0, none⟩)])] 75))).cell? ⟨w.heap.size, 0, none⟩ = some (.slice none 0 0) := Rg.blk_cells ((((Gr.refl _).alloc _).block _ (by rw [World.size_alloc]; exact Nat.lt_succ_self _)).trans (alloc_at _ _)) 0
  generalize ((w.alloc (.cells #[.slice none 0 0] 24)).alloc (.cells #[(.func (.func 27) #[] #[.pointer (some ⟨w.heap.size, 0, none⟩), .pointer (some ⟨w.heap.size + 1, 0, none⟩)])] 75)) = W0 at *
  have HG0 := hid hG0
  have HCW := hid hcw
  have HCO := hid hco
  clear hG0 hcw hco
  go_loopw [10] (fun s10 wr => ∃ k : Nat, s10 = .int .i64 (k : Int) ∧ k ≤ 1 ∧ Gr W0 wr) (fun s10 _ => 1 - (intOf s10).toNat)
  · exact ⟨0, rfl, Nat.zero_le _, Gr.refl _⟩
  · obtain ⟨k, rfl, hk, hg⟩ := hrel
    have HG := hid hg
    have cw := hg.keep HCW.out
    have co := hg.keep HCO.out
    have lcw := lt_of_cell cw
    have lco := lt_of_cell co
    by_cases hk0 : k = 0
    · subst hk0
      have hgw := HG0.out.trans hg
      obtain ⟨k0, k1, k2, k3, k4, k5, k6, k7, k8, k9, k10, k11⟩ := kid_cells (w := wr) (b := g) (o := 0) (rk := r) (fun i u hu => by rw [Nat.zero_add]; exact hgw.keep (HCS.out i u hu))
      simp only [Nat.zero_add] at k1 k2 k3 k4 k5 k6 k7 k8 k9 k10 k11
      have lg : g < wr.heap.size := lt_of_cell k0
      have HXr := hid (HX.out.of hgw.size (fun b _ hb => hgw.block b hb))
      have HAL := hid (alloc_at wr (.cells zeroX 26))
      have HGB := hid (fun W5 h => gr_boxE (w1 := wr) (o := .cells zeroX 26) (W := W5) h)
      clear hgw hg hk
      go_wp2_with (first | (guard_target =~ wpList _ _ _ (Oper.mk _ (Op.store 26 _ _) _ _ _ _ :: _) _ _; refine st_row (ty := 26) rfl rfl wr.heap.size r.cells rfl rfl 26 _ HAL.out (by kernel_rfl) rfl (by kernel_rfl) ?_; intro W5 hW5 gW5 zW5; have hg5 := HGB.out W5 gW5; have HW5 := hid hW5; have c5 := hg5.keep cw; have l5 := lt_of_cell c5; clear gW5 zW5 hW5) | (guard_target =~ wpList _ _ _ (Oper.mk _ (Op.load 26 _) _ _ _ _ :: _) _ _; refine wpList_load_row rfl 26 _ rfl wr.heap.size rfl 26 r.cells (0, 0) _ HW5.out Tryz.underlying26 rfl (by kernel_rfl) ?_))
      refine (walk_any w.heap.size (w.heap.size + 1) x.forms x (Nat.le_refl _) hna r W5 (HXr.out.of hg5.size (fun b _ hb => hg5.block b hb)) c5).mono ?_
      rintro e w3 ⟨rfl, hg3⟩
      have HX3 := hid (HG.out.trans (hg5.trans hg3))
      clear hg5 hg3 HAL HGB HW5 k0 k1 k2 k3 k4 k5 k6 k7 k8 k9 k10 k11 c5 HG cw co
      go_wp2
      exact ⟨⟨1, rfl, Nat.le_refl _, HX3.out⟩, Nat.zero_lt_one⟩
    · obtain rfl : k = 1 := Nat.le_antisymm hk (Nat.pos_of_ne_zero hk0)
      have HF := hid (HG0.out.trans hg)
      clear HCS HX HG hk0 hk hg HG0 HCW HCO cw
      go_wp2_with (refine (clip_any none 0 0 (Nat.le_refl 0) _).mono ?_; rintro e w' ⟨rfl, rfl⟩)
      go_returns
      exact ⟨rfl, HF.out⟩
end Go.Proofs.YtbeinfhgfflneaaGreat
end
section
namespace Go.Proofs.YtbeinfhgfflneaaGreat
open Go.RowKit
set_option linter.unusedSimpArgs false
set_option linter.unusedVariables false
attribute [local go_sem] Rg.leads_value Rg.leads_skip Rg.leads_enter Rg.brings_value Rg.brings_skip Rg.brings_enter Rg.bringsG_value Rg.bringsG_enter Rg.once_normal Rg.once_exit Rg.once_ret Rg.once_panic Rg.once_goto Rg.bringsS_value Rg.bringsS_skip Rg.bringsS_enter Rg.still_value Rg.still_skip Rg.still_enter
def agN : Ex → V × Int := fun _ => (nul, 1)
def ExSt (W0 : World) (r : XR) (rv : Value) (s : Nat) (v : Nat → Value) (W : World) : Prop := Gr W0 W ∧ (s = 1 → ∃ g, v 2 = .slice (some ⟨g, 0, none⟩) 1 1 ∧ ∀ i u, (xF r)[i]? = some u → W.cell? ⟨g, i, none⟩ = some u) ∧ (s = 3 → ∃ p, v 6 = .pointer (some ⟨p, 0, none⟩) ∧ W.heap[p]? = some (.cells #[rv, .slice none 0 0, .slice none 0 0] 58 (0, 0)))
theorem env_of (p : Nat) (W : World) (oa : Option Addr) (cc : Nat) (rows : List (List V)) (h : W.heap[p]? = some (.cells #[.slice oa rows.length cc, .slice none 0 0, .slice none 0 0] 58 (0, 0))) (hr : RowsAt W oa rows) : EnvAt p W rows agN :=
  ⟨⟨oa, cc, _, _, h, hr⟩, fun W' x r hW hx => agg_none p r W' (Rg.blk_cells ((hW.block p (lt_blk h)).trans h) 1)⟩
set_option maxHeartbeats 8000000 in
set_option maxRecDepth 100000 in
theorem eexpr_any (x : Ex) (r : XR) (oa : Option Addr) (cc : Nat) (rows : List (List V)) (k : Nat) (w : World) (hx : Ex.At Al w x r) (hna : Ex.noAgg x = true) (hr : RowsAt w oa rows) (hf : Ex.fitsX k x) (hv : ∀ l ∈ rows, ∀ v ∈ l, VB k v) (hs : x.forms * k ≤ 9223372036854775807) :
    Calls Tryz.prog 8 #[XR.val r, .slice oa rows.length cc, .slice none 0 0] w (Vp (evX rows agN x) w) := by
  have EC : Hid (∀ p W, Gr w W → W.heap[p]? = some (.cells #[.slice oa rows.length cc, .slice none 0 0, .slice none 0 0] 58 (0, 0)) → Calls Tryz.prog 18 #[.pointer (some ⟨p, 0, none⟩), XR.val r] W (Vp (evX rows agN x) W)) := hid (fun p W hW h =>
    ev_any p rows agN k hv (fun _ => vb_nul _) x.forms x (Nat.le_refl _) r W (env_of p W oa cc rows h (hr.keep hW)) (hx.of hW.size (fun b _ hb => hW.block b hb)) hf hs)
  have AC : Hid (∀ g W, Gr w W → (∀ i u, (xF r)[i]? = some u → W.cell? ⟨g, i, none⟩ = some u) → Calls Tryz.prog 17 #[.slice (some ⟨g, 0, none⟩) 1 1] W fun e w' => e = .returned (.slice none 0 0) ∧ Gr W w') := hid (fun g W hW h =>
    aggs_one x hna r g W (hx.of hW.size (fun b _ hb => hW.block b hb)) h)
  generalize evX rows agN x = R at *
  generalize rows.length = nr at *
  clear hx hna hr hf hv hs
  obtain ⟨⟨op, ⟨vt, vn, vs, vb⟩, tab, name, t, c, nt, st⟩, roa, rn, rc⟩ := r
  obtain ⟨⟨tn, nn, sn, bn⟩, en⟩ := R
  unfold XR.val Vp pairR at *
  obtain ⟨W0, hW0⟩ : ∃ W0, (w.alloc (.cells #[.int .i64 op, .int .i64 vt, .int .i64 vn, .string vs, .bool vb, .string tab, .string name, .int .i64 t, .int .i64 c, .bool nt, .bool st, .slice roa rn rc] 26)).alloc (.cells zeroV 23) = W0 := ⟨_, rfl⟩
  have HW0 := hid hW0
  have HG0 : Hid (Gr w W0) := hid (by rw [← hW0]; exact ((Gr.refl w).alloc _).alloc _)
  have HB0 : Hid (W0.heap[w.heap.size]? = some (.cells #[.int .i64 op, .int .i64 vt, .int .i64 vn, .string vs, .bool vb, .string tab, .string name, .int .i64 t, .int .i64 c, .bool nt, .bool st, .slice roa rn rc] 26 (0, 0))) := hid (by rw [← hW0]; exact (((Gr.refl _).alloc _).block _ (by rw [World.size_alloc]; exact Nat.lt_succ_self _)).trans (alloc_at _ _))
  have HZ0 : Hid (W0.heap[w.heap.size + 1]? = some (.cells zeroV 23 (0, 0))) := hid (by rw [← hW0]; exact alloc_two _ _ _)
  clear hW0
  go_enter Tryz.func8, Tryz.ntmps8
  go_wp2_with fail
  rw [show ((w.alloc (.cells #[.int .i64 op, .int .i64 vt, .int .i64 vn, .string vs, .bool vb, .string tab, .string name, .int .i64 t, .int .i64 c, .bool nt, .bool st, .slice roa rn rc] 26)).alloc (.cells #[.int .i64 0, .int .i64 0, .string ⟨#[]⟩, .bool false] 23)) = W0 from HW0.out]
  clear HW0
  have hS0 : ∀ v, ExSt W0 ⟨⟨op, ⟨vt, vn, vs, vb⟩, tab, name, t, c, nt, st⟩, roa, rn, rc⟩ (.slice oa nr cc) 0 v (W0.drew) := fun v => by unfold ExSt; exact ⟨(Gr.refl _).drew, fun h => absurd h (by decide), fun h => absurd h (by decide)⟩
  refine Rg.region_chain 11 [2, 3, 6, 8] [] (ExSt W0 ⟨⟨op, ⟨vt, vn, vs, vb⟩, tab, name, t, c, nt, st⟩, roa, rn, rc⟩ (.slice oa nr cc)) [some (.slice oa nr cc), some (.agg #[.int .i64 op, .int .i64 vt, .int .i64 vn, .string vs, .bool vb, .string tab, .string name, .int .i64 t, .int .i64 c, .bool nt, .bool st, .slice roa rn rc]), none, some (.slice none 0 0), some (.slice none 0 0), some (.agg #[.slice oa nr cc, .slice none 0 0, .slice none 0 0]), none, some (.agg #[.int .i64 op, .int .i64 vt, .int .i64 vn, .string vs, .bool vb, .string tab, .string name, .int .i64 t, .int .i64 c, .bool nt, .bool st, .slice roa rn rc]), some (.tuple #[.agg #[.int .i64 tn, .int .i64 nn, .string sn, .bool bn], .int .i64 en]), some (.agg #[.int .i64 tn, .int .i64 nn, .string sn, .bool bn]), some (.int .i64 en)]
    hS0 (by kernel_rfl) (by kernel_rfl) (by kernel_rfl) (by kernel_rfl) (fun _ _ d _ _ h => by cases d <;> exact h) ?_
  intro OPS _ v
  simp only [List.take_succ_cons, List.take_zero, Rg.wpC, Rg.wpS, Option.getD_some, Option.getD_none, Act.put, List.setIfInBounds_toArray, List.set_cons_zero, List.set_cons_succ, show List.contains [2, 3, 6, 8] 0 = false from rfl, show List.contains [2, 3, 6, 8] 1 = false from rfl, show List.contains [2, 3, 6, 8] 2 = true from rfl, show List.contains [2, 3, 6, 8] 3 = true from rfl, show List.contains [2, 3, 6, 8] 4 = false from rfl, show List.contains [2, 3, 6, 8] 5 = false from rfl, show List.contains [2, 3, 6, 8] 6 = true from rfl, show List.contains [2, 3, 6, 8] 7 = false from rfl, show List.contains [2, 3, 6, 8] 8 = true from rfl, show List.contains [2, 3, 6, 8] 9 = false from rfl, show List.contains [2, 3, 6, 8] 10 = false from rfl, Bool.false_eq_true, if_false, if_true, Nat.reduceAdd]
  have cW : ∀ W, Gr W0 W → W.heap[w.heap.size]? = some (.cells #[.int .i64 op, .int .i64 vt, .int .i64 vn, .string vs, .bool vb, .string tab, .string name, .int .i64 t, .int .i64 c, .bool nt, .bool st, .slice roa rn rc] 26 (0, 0)) := fun W h => (h.block _ (lt_blk HB0.out)).trans HB0.out
  have HCW := hid cW
  clear cW hS0
  refine ⟨?_, ?_, ?_, ?_, ?_, ?_, ?_, ?_, ?_, ?_, ?_, ?_⟩
  · refine sc_still (by rfl) (by rfl) (fun s' W _ hS => ?_)
    go_simp
  · refine sc_still (by rfl) (by rfl) (fun s' W _ hS => ?_)
    have cW := Rg.blk_cells (HCW.out W hS.1)
    go_simp
  · refine sc_new (by rfl) (by rfl) (fun W hS => ?_)
    go_simp
    unfold ExSt
    refine ⟨hS.1.alloc _, fun _ => ⟨_, upd_same _ _ _, fun i u hu => ?_⟩, fun h => absurd h (by decide)⟩
    rw [Rg.blk_cells (alloc_at _ _)]
    simpa [xF] using hu
  · refine sc_call (by rfl) (by rfl) (fun W hS => ?_)
    unfold ExSt at hS
    obtain ⟨hg, h1, _⟩ := hS
    obtain ⟨g, hv, hcs⟩ := h1 rfl
    rw [hv]
    have HA := AC.out g W (HG0.out.trans hg) hcs
    have HH := hid hg
    clear hg h1 hv hcs
    go_simp
    refine HA.mono ?_
    rintro e w' ⟨rfl, hg'⟩
    exact ⟨_, rfl, rfl, by unfold ExSt; exact ⟨HH.out.trans hg', fun h => absurd h (by decide), fun h => absurd h (by decide)⟩⟩
  · refine sc_still (by rfl) (by rfl) (fun s' W _ hS => ?_)
    go_simp
  · refine sc_still (by rfl) (by rfl) (fun s' W _ hS => ?_)
    go_simp
  · refine sc_new (by rfl) (by rfl) (fun W hS => ?_)
    go_simp
    unfold ExSt
    refine ⟨hS.1.alloc _, fun h => absurd h (by decide), fun _ => ⟨_, upd_same _ _ _, alloc_at _ _⟩⟩
  · refine sc_still (by rfl) (by rfl) (fun s' W _ hS => ?_)
    have cW := Rg.blk_cells (HCW.out W hS.1)
    go_simp
  · refine sc_call (by rfl) (by rfl) (fun W hS => ?_)
    unfold ExSt at hS
    obtain ⟨hg, _, h3⟩ := hS
    obtain ⟨p, hv, hblk⟩ := h3 rfl
    rw [hv]
    have HE := EC.out p W (HG0.out.trans hg) hblk
    have HH := hid hg
    clear hg h3 hv hblk
    go_simp
    refine HE.mono ?_
    rintro e w' ⟨rfl, hg'⟩
    exact ⟨_, rfl, rfl, by unfold ExSt; exact ⟨HH.out.trans hg', fun h => absurd h (by decide), fun h => absurd h (by decide)⟩⟩
  · refine sc_still (by rfl) (by rfl) (fun s' W _ hS => ?_)
    go_simp
  · refine sc_still (by rfl) (by rfl) (fun s' W _ hS => ?_)
    go_simp
  · intro W9 hS9
    have hg9 : Gr W0 W9 := hS9.1
    clear hS9
    have hG := HG0.out.trans hg9
    have hZ := (hg9.block _ (lt_blk HZ0.out)).trans HZ0.out
    unfold zeroV at hZ
    have cZ := Rg.blk_cells hZ
    have fZ := Rg.blk_free hZ
    have lZ := lt_blk hZ
    clear hg9 hZ HZ0 HB0 HCW HG0 AC EC
    simp only [List.drop_succ_cons, List.drop_zero]
    go_wp2
    all_goals
      (try (go_step3; (try simp only [Exit.then]); (try change Rg.once _ _ _ _ _ _); rw [Rg.once_goto]; go_wp2))
      (try rw [Rg.once_ret])
      (try rw [Exit.noGoto_ret])
      (try change bodyPost _ _ _ _ _ _)
      first
      | (go_returns; refine ⟨?_, ?_⟩)
      | (refine bodyPost_ret (by simp [results, Tryz.results8, go_sem, *]; try rfl) rfl ⟨?_, ?_⟩)
      rotate_left
      · repeat' (first | exact Gr.refl _ | exact Nat.le_refl _ | exact Nat.le_add_right _ _ | refine Gr.setCell ?_ ?_ _ | refine Gr.alloc ?_ _ | refine Gr.drew ?_ | refine Gr.trans ?_ (by assumption) | omega | (dsimp only; omega))
    all_goals rfl
end Go.Proofs.YtbeinfhgfflneaaGreat
end
section
namespace Go.Proofs.YtbeinfhgfflneaaGreat
open Go.RowKit
set_option linter.unusedSimpArgs false
set_option linter.unusedVariables false
attribute [local go_sem] Rg.leads_value Rg.leads_skip Rg.leads_enter Rg.brings_value Rg.brings_skip Rg.brings_enter Rg.bringsG_value Rg.bringsG_enter Rg.once_normal Rg.once_exit Rg.once_ret Rg.once_panic Rg.once_goto
def idx4 (b0 b1 b2 b3 : Bool) : Int := if b0 then 0 else if b1 then 1 else if b2 then 2 else if b3 then 3 else -1
set_option maxHeartbeats 4000000 in
set_option maxRecDepth 100000 in
theorem index4 (g : Nat) (s a0 a1 a2 a3 : ByteArray) (w : World) (c0 : w.cell? ⟨g, 0, none⟩ = some (.string a0)) (c1 : w.cell? ⟨g, 1, none⟩ = some (.string a1)) (c2 : w.cell? ⟨g, 2, none⟩ = some (.string a2)) (c3 : w.cell? ⟨g, 3, none⟩ = some (.string a3)) :
    Calls Tryz.prog 140 #[.slice (some ⟨g, 0, none⟩) 4 4, .string s] w fun e w' => e = .returned (.int .i64 (idx4 (s.toList == a0.toList) (s.toList == a1.toList) (s.toList == a2.toList) (s.toList == a3.toList))) ∧ w' = w := by
  unfold idx4
  cases h0 : (s.toList == a0.toList) with
  | true =>
    simp only [if_true]
    go_enter Tryz.func140, Tryz.ntmps140
    go_wp2_with fail
    refine wp_loop_rounds 5 ?_
    rw [rounds_succ]
    go_wp2
    go_ret
    exact ⟨rfl, rfl⟩
  | false =>
    cases h1 : (s.toList == a1.toList) with
    | true =>
      simp only [if_true, Bool.false_eq_true, if_false]
      go_enter Tryz.func140, Tryz.ntmps140
      go_wp2_with fail
      refine wp_loop_rounds 5 ?_
      rw [rounds_succ]
      go_wp2
      rw [rounds_succ]
      go_wp2
      go_ret
      exact ⟨rfl, rfl⟩
    | false =>
      cases h2 : (s.toList == a2.toList) with
      | true =>
        simp only [if_true, Bool.false_eq_true, if_false]
        go_enter Tryz.func140, Tryz.ntmps140
        go_wp2_with fail
        refine wp_loop_rounds 5 ?_
        rw [rounds_succ]
        go_wp2
        rw [rounds_succ]
        go_wp2
        rw [rounds_succ]
        go_wp2
        go_ret
        exact ⟨rfl, rfl⟩
      | false =>
        cases h3 : (s.toList == a3.toList) with
        | true =>
          simp only [if_true, Bool.false_eq_true, if_false]
          go_enter Tryz.func140, Tryz.ntmps140
          go_wp2_with fail
          refine wp_loop_rounds 5 ?_
          rw [rounds_succ]
          go_wp2
          rw [rounds_succ]
          go_wp2
          rw [rounds_succ]
          go_wp2
          rw [rounds_succ]
          go_wp2
          go_ret
          exact ⟨rfl, rfl⟩
        | false =>
          simp only [Bool.false_eq_true, if_false]
          go_enter Tryz.func140, Tryz.ntmps140
          go_wp2_with fail
          refine wp_loop_rounds 5 ?_
          rw [rounds_succ]
          go_wp2
          rw [rounds_succ]
          go_wp2
          rw [rounds_succ]
          go_wp2
          rw [rounds_succ]
          go_wp2
          rw [rounds_succ]
          go_wp2
          go_ret
          exact ⟨rfl, rfl⟩
theorem idx4_ge (b0 b1 b2 b3 : Bool) : decide (0 ≤ idx4 b0 b1 b2 b3) = (b0 || b1 || b2 || b3) := by cases b0 <;> cases b1 <;> cases b2 <;> cases b3 <;> rfl
theorem str_eq (s c : ByteArray) : (s.toList == c.toList) = (s.data.toList == c.data.toList) := by rw [ByteArray.toList_eq, ByteArray.toList_eq]
set_option maxHeartbeats 4000000 in
set_option maxRecDepth 100000 in
theorem contains4 (g : Nat) (s a0 a1 a2 a3 : ByteArray) (w : World) (c0 : w.cell? ⟨g, 0, none⟩ = some (.string a0)) (c1 : w.cell? ⟨g, 1, none⟩ = some (.string a1)) (c2 : w.cell? ⟨g, 2, none⟩ = some (.string a2)) (c3 : w.cell? ⟨g, 3, none⟩ = some (.string a3)) :
    Calls Tryz.prog 138 #[.slice (some ⟨g, 0, none⟩) 4 4, .string s] w fun e w' => e = .returned (.bool ((s.toList == a0.toList) || (s.toList == a1.toList) || (s.toList == a2.toList) || (s.toList == a3.toList))) ∧ w' = w := by
  have H := index4 g s a0 a1 a2 a3 w c0 c1 c2 c3
  have HD := idx4_ge (s.toList == a0.toList) (s.toList == a1.toList) (s.toList == a2.toList) (s.toList == a3.toList)
  rw [← HD]
  generalize idx4 (s.toList == a0.toList) (s.toList == a1.toList) (s.toList == a2.toList) (s.toList == a3.toList) = k at *
  clear HD c0 c1 c2 c3
  go_enter Tryz.func138, Tryz.ntmps138
  go_wp2_with fail
  refine H.mono ?_
  rintro e w1 ⟨rfl, rfl⟩
  go_wp2
  go_ret
  exact ⟨rfl, rfl⟩
set_option maxHeartbeats 4000000 in
set_option maxRecDepth 100000 in
theorem folds_any (s : ByteArray) (w : World) : Calls Tryz.prog 136 #[.string s] w fun e w' => e = .returned (.bool (folds s.data.toList)) ∧ Gr w w' := by
  have H := fun g w c0 c1 c2 c3 => contains4 g s ⟨#[99, 111, 117, 110, 116]⟩ ⟨#[115, 117, 109]⟩ ⟨#[109, 105, 110]⟩ ⟨#[109, 97, 120]⟩ w c0 c1 c2 c3
  have HF : (s.toList == (⟨#[99, 111, 117, 110, 116]⟩ : ByteArray).toList || s.toList == (⟨#[115, 117, 109]⟩ : ByteArray).toList || s.toList == (⟨#[109, 105, 110]⟩ : ByteArray).toList || s.toList == (⟨#[109, 97, 120]⟩ : ByteArray).toList) = folds s.data.toList := by unfold folds; rw [str_eq, str_eq, str_eq, str_eq]
  rw [HF] at H
  generalize folds s.data.toList = f at *
  clear HF
  have FI : Hid (∀ o, Gr w (w.alloc o)) := hid (fun o => (Gr.refl w).alloc o)
  go_enter Tryz.func136, Tryz.ntmps136
  go_wp2_with fail
  refine (H w.heap.size _ (by rw [Rg.blk_cells (alloc_at _ _)]; rfl) (by rw [Rg.blk_cells (alloc_at _ _)]; rfl) (by rw [Rg.blk_cells (alloc_at _ _)]; rfl) (by rw [Rg.blk_cells (alloc_at _ _)]; rfl)).mono ?_
  rintro e w1 ⟨rfl, rfl⟩
  go_wp2
  go_ret
  exact ⟨rfl, FI.out _⟩
set_option maxHeartbeats 4000000 in
set_option maxRecDepth 100000 in
theorem built_any (s : ByteArray) (w : World) : Calls Tryz.prog 132 #[.string s] w fun e w' => e = .returned (.bool (built s.data.toList)) ∧ Gr w w' := by
  have H := fun w => folds_any s w
  have HB : Hid (built s.data.toList = (folds s.data.toList || s.toList == [108, 101, 110, 103, 116, 104] || s.toList == [99, 111, 97, 108, 101, 115, 99, 101])) := hid (by unfold built; rw [ByteArray.toList_eq])
  rw [HB.out]
  clear HB
  generalize folds s.data.toList = f at *
  generalize hl : (s.toList == [108, 101, 110, 103, 116, 104]) = l at *
  generalize hc : (s.toList == [99, 111, 97, 108, 101, 115, 99, 101]) = c at *
  cases f with
  | true =>
    go_enter Tryz.func132, Tryz.ntmps132
    go_wp2_with fail
    refine (H _).mono ?_
    rintro e w1 ⟨rfl, hg⟩
    go_wp2
    first
    | exact ⟨rfl, hg⟩
    | (go_ret; exact ⟨rfl, hg⟩)
  | false =>
    cases l with
    | true =>
      go_enter Tryz.func132, Tryz.ntmps132
      go_wp2_with fail
      refine (H _).mono ?_
      rintro e w1 ⟨rfl, hg⟩
      go_wp2
      first
      | exact ⟨rfl, hg⟩
      | (go_ret; exact ⟨rfl, hg⟩)
    | false =>
      go_enter Tryz.func132, Tryz.ntmps132
      go_wp2_with fail
      refine (H _).mono ?_
      rintro e w1 ⟨rfl, hg⟩
      go_wp2
      first
      | exact ⟨rfl, hg⟩
      | (go_ret; exact ⟨rfl, hg⟩)
end Go.Proofs.YtbeinfhgfflneaaGreat
end
section
namespace Go.Proofs.YtbeinfhgfflneaaGreat
open Go.RowKit
set_option linter.unusedSimpArgs false
set_option linter.unusedVariables false
attribute [local go_sem] Rg.leads_value Rg.leads_skip Rg.leads_enter Rg.brings_value Rg.brings_skip Rg.brings_enter Rg.bringsG_value Rg.bringsG_enter Rg.once_normal Rg.once_exit Rg.once_ret Rg.once_panic Rg.once_goto
set_option maxHeartbeats 4000000 in
set_option maxRecDepth 100000 in
theorem up_dfr_raw (p : Nat) (l : List Lx.Tok) (d e a : Int) (w : World) (u : FrameMode) (h : PR p w l d e a) : CallsD Tryz.prog 90 #[.pointer (some ⟨p, 0, none⟩)] u w fun x u' w' => u' = u ∧ (x = .returned (.tuple #[]) ∧ w' = w.setCell ⟨p, 1, none⟩ (.int .i64 (wrap64 (d - 1)))) := by
  obtain ⟨oa, cap, hh, hc, hat, hne⟩ := h.ex
  have r1 := Rg.blk_cells hh 1
  have f1 := Rg.blk_free hh 1
  simp only [List.getElem?_toArray, List.getElem?_cons_zero, List.getElem?_cons_succ] at r1
  clear h hat hne hh
  go_enter_d Tryz.func90, Tryz.ntmps90
  go_wp2
  go_end0
  exact ⟨rfl, rfl⟩
theorem up_dfr (p : Nat) (s : Ps) (w : World) (u : FrameMode) (h : PS p w s) (hd : ∀ l d, s = .ok l d → 1 ≤ d) : CallsD Tryz.prog 90 #[.pointer (some ⟨p, 0, none⟩)] u w fun x u' w' => u' = u ∧ x = .returned (.tuple #[]) ∧ PS p w' s.up ∧ Go1 p w w' := by
  match s, h with
  | .bad e a, h =>
    obtain ⟨he, l, d, h⟩ := h
    exact (up_dfr_raw p l d e a w u h).mono fun x u' w' ⟨h0, h1, h2⟩ => ⟨h0, h1, by rw [h2]; exact ⟨he, l, _, h.deep _⟩, by rw [h2]; exact .set _ _ _ _⟩
  | .ok l d, h =>
    have hd := hd l d rfl
    refine (up_dfr_raw p l d 0 0 w u h.2).mono fun x u' w' ⟨h0, h1, h2⟩ => ⟨h0, h1, ?_, by rw [h2]; exact .set _ _ _ _⟩
    rw [h2, show wrap64 ((d : Int) - 1) = ((d - 1 : Nat) : Int) by have := h.1; unfold wrap64; omega]
    exact ⟨by have := h.1; omega, h.2.deep _⟩
set_option maxHeartbeats 8000000 in
set_option maxRecDepth 100000 in
theorem call_full (E : Pa Ex) (p : Nat) (nm : List UInt8) (s : Ps) (w : World) (hS : PS p w s) (hgood : s.good = true) (hD : s.down.good = false) : Calls Tryz.prog 134 #[.pointer (some ⟨p, 0, none⟩), .string (txt nm)] w (Px p w (callS E nm s)) := by
  have hpw := hS.lt
  have hG := fun o => (Gr.refl w).alloc o
  have hS0 := fun o => hS.keep (hG o)
  have eR : callS E nm s = (noEx, s.down) := by
    unfold callS; rw [hD]; rfl
  rw [eR]
  clear eR
  have hfo := fun w => folds_any (txt nm) w
  rw [txt_list] at hfo
  go_enter_defers Tryz.func134, Tryz.ntmps134
  go_wp2_with fail
  refine (hfo _).mono ?_
  rintro e w1 ⟨rfl, hg1⟩
  have hps1 := (hS0 _).keep hg1
  go_wp2_with fail
  refine (down_any p s _ hps1 hgood).mono ?_
  rintro e w2 ⟨rfl, hps2, hg2⟩
  rw [hD]
  have z1 := hg1.size
  have z2 := hg2.size
  simp only [World.size_alloc] at z1
  have h02 : w2.heap[w.heap.size]? = some (.cells zeroX 26 (0, 0)) := by
    rw [hg2.get (by omega) (by omega), hg1.block _ (by simp)]; exact alloc_at _ _
  have hgo2 : Go1 p w w2 := ((Go1.of (hG _)).trans (.of hg1)).trans hg2
  clear hg1 hg2 hps1 hS0 hG hS
  have FI : Hid (∀ W5, Go1 w.heap.size w2 W5 → Rx p w (noEx, s.down) (XR.val ⟨{ op := 0 }, none, 0, 0⟩) W5) := hid (fun W5 h5 => giveG hpw rfl (formZ (S := fun b => w.heap.size ≤ b ∧ b ≠ w.heap.size)) hps2 hgo2 (fun _ => rfl) h5)
  have H05 := hid h02
  clear hps2 hgo2 h02
  go_wp2_with (guard_target =~ wpList _ _ _ (Oper.mk _ (Op.store 26 _ _) _ _ _ _ :: _) _ _; refine st_row (ty := 26) rfl rfl w.heap.size _ rfl rfl 26 _ (H05.out) (by kernel_rfl) rfl (by kernel_rfl) ?_; intro W5 hW5 gW5 zW5)
  (try simp only [Exit.inBlock, Exit.then])
  have hT := Rg.blk_cells hW5
  exact ⟨XR.val ⟨{ op := 0 }, none, 0, 0⟩, by simp [results, Tryz.results134, go_sem, XR.val, nul, hT]; try rfl, _, rfl, FI.out W5 gW5⟩
set_option maxHeartbeats 8000000 in
set_option maxRecDepth 100000 in
theorem call_star (E : Pa Ex) (p : Nat) (nm : List UInt8) (s : Ps) (w : World) (hS : PS p w s) (hgood : s.good = true) (hK : s.headK = 1) (hD : s.down.good = true) (hc : (nm == (⟨#[99, 111, 117, 110, 116]⟩ : ByteArray).data.toList) = true) (hst : (s.down.step.need 4 ⟨#[40]⟩).is 4 ⟨#[42]⟩ = true) : Calls Tryz.prog 134 #[.pointer (some ⟨p, 0, none⟩), .string (txt nm)] w (Px p w (callS E nm s)) := by
  have hpw := hS.lt
  have hG := fun o => (Gr.refl w).alloc o
  have hS0 := fun o => hS.keep (hG o)
  have eR : callS E nm s = (.mk { op := 4, name := txt nm, st := true } [], ((s.down.step.need 4 ⟨#[40]⟩).step.need 4 ⟨#[41]⟩).up) := by
    unfold callS; simp only [hD, hc, hst, if_true, Bool.and_self]
  rw [eR]
  clear eR
  have hup : Hid (∀ l d, (s.down.step.need 4 ⟨#[40]⟩).step.need 4 ⟨#[41]⟩ = .ok l d → 1 ≤ d) := hid (down_deep hD (As.trans (as_need _ _ _) (As.trans (as_step _) (As.trans (as_need _ _ _) (as_step s.down))))).1
  have HS1 := hid hst
  obtain ⟨s1, hs1⟩ : ∃ s1, s.down.step.need 4 ⟨#[40]⟩ = s1 := ⟨_, rfl⟩
  rw [hs1] at HS1 hup
  rw [hs1]
  have hfo := fun w => folds_any (txt nm) w
  rw [txt_list] at hfo
  go_enter_defers Tryz.func134, Tryz.ntmps134
  go_wp2_with fail
  refine (hfo _).mono ?_
  rintro e w1 ⟨rfl, hg1⟩
  have hps1 := (hS0 _).keep hg1
  go_wp2_with fail
  refine (down_any p s _ hps1 hgood).mono ?_
  rintro e w2 ⟨rfl, hps2, hg2⟩
  rw [hD]
  have z1 := hg1.size
  have z2 := hg2.size
  simp only [World.size_alloc] at z1
  have h02 : w2.heap[w.heap.size]? = some (.cells zeroX 26 (0, 0)) := by
    rw [hg2.get (by omega) (by omega), hg1.block _ (by simp)]; exact alloc_at _ _
  have hgo2 : Go1 p w w2 := ((Go1.of (hG _)).trans (.of hg1)).trans hg2
  clear hg1 hg2 hps1 hS0 hG hS
  obtain ⟨d1, d2, d3, d4⟩ := down_good hD
  have hk5 : s.down.headK ≠ 5 := by rw [d3]; omega
  go_wp2_with fail
  refine (step_any p s.down _ hps2 hk5 hD).mono ?_
  rintro e w3 ⟨rfl, hps3, hg3⟩
  go_wp2_with fail
  refine (must_any p ⟨#[40]⟩ _ _ hps3).mono ?_
  rintro e w4 ⟨rfl, hps4, hg4⟩
  have hgo4 := (hgo2.trans hg3).trans hg4
  have h04 : w4.heap[w.heap.size]? = some (.cells zeroX 26 (0, 0)) := by
    rw [hg4.get (by have := hg3.size; omega) (by omega), hg3.get (by omega) (by omega)]; exact h02
  have z4 := (hg3.trans hg4).size
  clear hps2 hps3 hg3 hg4 hgo2 h02
  rw [hs1] at hps4
  have tc : ((txt nm).toList == [99, 111, 117, 110, 116]) = true := by rw [ByteArray.toList_eq, txt_list]; exact hc
  generalize txt nm = tn at *
  clear hst hc
  go_wp2_with fail
  refine (sign_any' p ⟨#[42]⟩ s1 _ hps4).mono ?_
  rintro e w5 ⟨rfl, hps5, hg5⟩
  rw [HS1.out]
  rw [show (s1.may 4 ⟨#[42]⟩).2 = s1.step by simp [Ps.may, HS1.out]] at hps5
  go_wp2_with fail
  refine (must_any p ⟨#[41]⟩ _ _ hps5).mono ?_
  rintro e w6 ⟨rfl, hps6, hg6⟩
  have HGO := hid ((hgo4.trans hg5).trans hg6)
  have H06 : Hid (w6.heap[w.heap.size]? = some (.cells zeroX 26 (0, 0))) := hid (by
    rw [hg6.get (by have := hg5.size; omega) (by omega), hg5.get (by omega) (by omega)]; exact h04)
  have HZ : Hid (w.heap.size < w6.heap.size) := hid (Array.getElem?_eq_some_iff.1 H06.out).1
  have HPS := hid hps6
  clear hps4 hps5 hps6 hg5 hg6 hgo4 h04
  have FI : Hid (∀ W5 w9, Go1 w.heap.size w6 W5 → Go1 p W5 w9 → PS p w9 (Ps.up (s1.step.need 4 ⟨#[41]⟩)) → Rx p w (.mk { op := 4, name := tn, st := true } [], (s1.step.need 4 ⟨#[41]⟩).up) (XR.val ⟨{ op := 4, name := tn, st := true }, none, 0, 0⟩) w9) := hid (fun W5 w9 h5 h9 hp9 => by
    refine ⟨⟨{ op := 4, name := tn, st := true }, none, 0, 0⟩, .mk { op := 4, name := tn, st := true } [], rfl, ?_, hp9, (HGO.out.own h5 (by omega)).trans h9, fun _ => rfl⟩
    refine ((formZ (S := fun b => w.heap.size ≤ b ∧ b ≠ w.heap.size)).of h9.size (fun b hb hl => h9.get hl (by have := hb.1; omega))).mono (fun b _ hb => hb.1))
  have HPD : Hid (∀ W5, Go1 w.heap.size w6 W5 → PS p W5 (s1.step.need 4 ⟨#[41]⟩)) := hid (fun W5 h5 => HPS.out.go h5 (by omega))
  go_wp2_with (guard_target =~ wpList _ _ _ (Oper.mk _ (Op.store 26 _ _) _ _ _ _ :: _) _ _; refine st_row (ty := 26) rfl rfl w.heap.size _ rfl rfl 26 _ (H06.out) (by kernel_rfl) rfl (by kernel_rfl) ?_; intro W5 hW5 gW5 zW5)
  (try simp only [Exit.inBlock, Exit.then])
  have hp5 : PS p W5 (s1.step.need 4 ⟨#[41]⟩) := HPD.out W5 gW5
  refine leaves_cons (f := 90) (args := #[.pointer (some ⟨p, 0, none⟩)]) (by simp) (by simp [go_sem]) ?_
  refine (up_dfr p (s1.step.need 4 ⟨#[41]⟩) W5 .returning hp5 hup.out).mono ?_
  rintro e u' w9 ⟨rfl, rfl, hps9, hg9⟩
  have hT : ∀ i, w9.cell? ⟨w.heap.size, i, none⟩ = _ := fun i => (hg9.cell (by rw [zW5]; exact HZ.out) (by omega)).trans (Rg.blk_cells hW5 i)
  exact ⟨XR.val ⟨{ op := 4, name := tn, st := true }, none, 0, 0⟩, by simp [results, Tryz.results134, go_sem, XR.val, nul, hT]; try rfl, _, rfl, FI.out W5 w9 gW5 hg9 hps9⟩
set_option maxHeartbeats 8000000 in
set_option maxRecDepth 100000 in
theorem call_agg_count (E : Pa Ex) (p : Nat) (nm : List UInt8) (s : Ps) (w : World) (hS : PS p w s) (hgood : s.good = true) (hK : s.headK = 1) (hD : s.down.good = true) (hf : folds nm = true) (hc : (nm == (⟨#[99, 111, 117, 110, 116]⟩ : ByteArray).data.toList) = true) (hst : (s.down.step.need 4 ⟨#[40]⟩).is 4 ⟨#[42]⟩ = false) (hdp : DP E) (hq : ∀ w', PS p w' (s.down.step.need 4 ⟨#[40]⟩) → Calls Tryz.prog 21 #[.pointer (some ⟨p, 0, none⟩)] w' (Px p w' (E (s.down.step.need 4 ⟨#[40]⟩)))) : Calls Tryz.prog 134 #[.pointer (some ⟨p, 0, none⟩), .string (txt nm)] w (Px p w (callS E nm s)) := by
  have hpw := hS.lt
  have hG := fun o => (Gr.refl w).alloc o
  have hS0 := fun o => hS.keep (hG o)
  have eR : callS E nm s = (.mk { op := 4, name := txt nm } [(E (s.down.step.need 4 ⟨#[40]⟩)).1], ((E (s.down.step.need 4 ⟨#[40]⟩)).2.need 4 ⟨#[41]⟩).up) := by
    unfold callS; simp only [hD, hc, hst, hf, if_true, if_false, Bool.and_false, Bool.false_and, Bool.false_eq_true]
  rw [eR]
  clear eR
  have hup : Hid (∀ l d, (E (s.down.step.need 4 ⟨#[40]⟩)).2.need 4 ⟨#[41]⟩ = .ok l d → 1 ≤ d) := hid (down_deep hD (As.trans (as_need _ _ _) (As.trans (hdp _) (As.trans (as_need _ _ _) (as_step s.down))))).1
  have HS1 := hid hst
  obtain ⟨s1, hs1⟩ : ∃ s1, s.down.step.need 4 ⟨#[40]⟩ = s1 := ⟨_, rfl⟩
  rw [hs1] at HS1 hup hq
  rw [hs1]
  generalize hQ : E s1 = Q at *
  have hfo := fun w => folds_any (txt nm) w
  rw [txt_list, hf] at hfo
  go_enter_defers Tryz.func134, Tryz.ntmps134
  go_wp2_with fail
  refine (hfo _).mono ?_
  rintro e w1 ⟨rfl, hg1⟩
  have hps1 := (hS0 _).keep hg1
  go_wp2_with fail
  refine (down_any p s _ hps1 hgood).mono ?_
  rintro e w2 ⟨rfl, hps2, hg2⟩
  rw [hD]
  have z1 := hg1.size
  have z2 := hg2.size
  simp only [World.size_alloc] at z1
  have h02 : w2.heap[w.heap.size]? = some (.cells zeroX 26 (0, 0)) := by
    rw [hg2.get (by omega) (by omega), hg1.block _ (by simp)]; exact alloc_at _ _
  have hgo2 : Go1 p w w2 := ((Go1.of (hG _)).trans (.of hg1)).trans hg2
  clear hg1 hg2 hps1 hS0 hG hS
  obtain ⟨d1, d2, d3, d4⟩ := down_good hD
  have hk5 : s.down.headK ≠ 5 := by rw [d3]; omega
  go_wp2_with fail
  refine (step_any p s.down _ hps2 hk5 hD).mono ?_
  rintro e w3 ⟨rfl, hps3, hg3⟩
  go_wp2_with fail
  refine (must_any p ⟨#[40]⟩ _ _ hps3).mono ?_
  rintro e w4 ⟨rfl, hps4, hg4⟩
  have hgo4 := (hgo2.trans hg3).trans hg4
  have h04 : w4.heap[w.heap.size]? = some (.cells zeroX 26 (0, 0)) := by
    rw [hg4.get (by have := hg3.size; omega) (by omega), hg3.get (by omega) (by omega)]; exact h02
  have z4 := (hg3.trans hg4).size
  clear hps2 hps3 hg3 hg4 hgo2 h02
  rw [hs1] at hps4
  have tc : ((txt nm).toList == [99, 111, 117, 110, 116]) = true := by rw [ByteArray.toList_eq, txt_list]; exact hc
  generalize txt nm = tn at *
  clear hc hst
  go_wp2_with fail
  refine (sign_any' p ⟨#[42]⟩ s1 _ hps4).mono ?_
  rintro e w5 ⟨rfl, hps5, hg5⟩
  rw [HS1.out]
  rw [show (s1.may 4 ⟨#[42]⟩).2 = s1 by simp [Ps.may, HS1.out]] at hps5
  have h05 : w5.heap[w.heap.size]? = some (.cells zeroX 26 (0, 0)) := by
    rw [hg5.get (by omega) (by omega)]; exact h04
  have hgo5 := hgo4.trans hg5
  have z5 := hgo5.size
  have hl5 : w.heap.size < w5.heap.size := (Array.getElem?_eq_some_iff.1 h05).1
  go_wp2_with fail
  refine (hq _ hps5).mono ?_
  rintro e w6 ⟨u, rfl, r, x, rfl, hx, hps6, hg6, hgd⟩
  unfold XR.val
  have hA6 := fun o => (Gr.refl w6).alloc o
  have hps7 := fun o => hps6.keep (hA6 o)
  have z6 := hg6.size
  go_wp2_with fail
  refine (must_any p ⟨#[41]⟩ _ _ (hps7 _)).mono ?_
  rintro e w8 ⟨rfl, hps8, hg8⟩
  have z8 := hg8.size
  simp only [World.size_alloc] at z8
  have hp6 := hps6.lt
  have hr8 : w8.heap[w6.heap.size]? = some (.cells r.cells 26 (0, 0)) := by
    rw [hg8.get (by simp) (by omega)]; exact alloc_at _ _
  have h08 : w8.heap[w.heap.size]? = some (.cells zeroX 26 (0, 0)) := by
    rw [hg8.get (by simp; omega) (by omega), (hA6 _).block _ (by omega), hg6.get hl5 (by omega)]; exact h05
  have hx8 : Ex.At (fun b => w.heap.size ≤ b ∧ b ≠ w.heap.size) w8 x r := by
    refine ((hx.of (by simp) (fun b hb hl => (hA6 (.cells r.cells 26)).block b hl)).of hg8.size (fun b hb hl => hg8.get hl (by have : w5.heap.size ≤ b := hb; omega))).mono (fun b _ hb => by have : w5.heap.size ≤ b := hb; exact ⟨by omega, by omega⟩)
  have hgo8 : Go1 p w w8 := ((hgo5.trans hg6).block2 (hA6 _)).trans hg8
  have cE := Rg.blk_cells hr8
  simp only [XR.cells] at cE
  have hl8 : w.heap.size < w8.heap.size := (Array.getElem?_eq_some_iff.1 h08).1
  have hA8 := fun o => (Gr.refl w8).alloc o
  have H06 : Hid (∀ o, (w8.alloc o).heap[w.heap.size]? = some (.cells zeroX 26 (0, 0))) := hid (fun o => by rw [(hA8 o).block _ hl8]; exact h08)
  have HZ : Hid (w.heap.size < (w8.alloc (.cells r.cells 26)).heap.size) := hid (by simp; omega)
  have HPS := hid (hps8.keep (hA8 (.cells r.cells 26)))
  have HGO := hid (hgo8.block2 (hA8 (.cells r.cells 26)))
  have HX8 := hid ((hx8.of (hA8 (.cells r.cells 26)).size (fun b hb hl => (hA8 _).block b hl)))
  have HGD : Hid (((Q.2.need 4 ⟨#[41]⟩).up).good = true → x = Q.1) := hid (fun h => hgd (need_good (up_good h)))
  clear hps4 hps5 hps6 hps7 hps8 hg6 hg8 hgo4 hgo5 hgo8 h04 h05 h08 hx hx8 hr8 hgd hq hA6 hA8 hg5
  have FI : Hid (∀ W5 w9, Go1 w.heap.size (w8.alloc (.cells r.cells 26)) W5 → Go1 p W5 w9 → PS p w9 (Ps.up (Q.2.need 4 ⟨#[41]⟩)) → Rx p w (.mk { op := 4, name := tn } [Q.1], (Q.2.need 4 ⟨#[41]⟩).up) (XR.val ⟨{ op := 4, name := tn }, some ⟨w8.heap.size, 0, none⟩, 1, 1⟩) w9) := hid (fun W5 w9 h5 h9 hp9 => by
    refine ⟨⟨{ op := 4, name := tn }, some ⟨w8.heap.size, 0, none⟩, 1, 1⟩, .mk { op := 4, name := tn } [x], rfl, ?_, hp9, (HGO.out.own h5 (by omega)).trans h9, fun h => by rw [HGD.out h]⟩
    refine (((formN (S := fun b => w.heap.size ≤ b ∧ b ≠ w.heap.size) (rs := [r]) ⟨by omega, by omega⟩ (alloc_at w8 (.cells r.cells 26)) (by simp [cellsF, xF]) (Exs.At.cons HX8.out Exs.At.nil) (fit_le 1 (by decide))).of h5.size (fun b hb hl => h5.get hl hb.2)).of h9.size (fun b hb hl => h9.get hl (by have := hb.1; omega))).mono (fun b _ hb => hb.1))
  have HPD : Hid (∀ W5, Go1 w.heap.size (w8.alloc (.cells r.cells 26)) W5 → PS p W5 (Q.2.need 4 ⟨#[41]⟩)) := hid (fun W5 h5 => HPS.out.go h5 (by omega))
  go_wp2_with (guard_target =~ wpList _ _ _ (Oper.mk _ (Op.store 26 _ _) _ _ _ _ :: _) _ _; refine st_row (ty := 26) rfl rfl w.heap.size _ rfl rfl 26 _ (H06.out _) (by kernel_rfl) rfl (by kernel_rfl) ?_; intro W5 hW5 gW5 zW5)
  (try simp only [Exit.inBlock, Exit.then])
  have hp5 : PS p W5 (Q.2.need 4 ⟨#[41]⟩) := HPD.out W5 gW5
  refine leaves_cons (f := 90) (args := #[.pointer (some ⟨p, 0, none⟩)]) (by simp) (by simp [go_sem]) ?_
  refine (up_dfr p (Q.2.need 4 ⟨#[41]⟩) W5 .returning hp5 hup.out).mono ?_
  rintro e u' w9 ⟨rfl, rfl, hps9, hg9⟩
  have hT : ∀ i, w9.cell? ⟨w.heap.size, i, none⟩ = _ := fun i => (hg9.cell (by rw [zW5]; exact HZ.out) (by omega)).trans (Rg.blk_cells hW5 i)
  exact ⟨XR.val ⟨{ op := 4, name := tn }, some ⟨w8.heap.size, 0, none⟩, 1, 1⟩, by simp [results, Tryz.results134, go_sem, XR.val, nul, hT]; try rfl, _, rfl, FI.out W5 w9 gW5 hg9 hps9⟩
set_option maxHeartbeats 8000000 in
set_option maxRecDepth 100000 in
theorem call_agg_other (E : Pa Ex) (p : Nat) (nm : List UInt8) (s : Ps) (w : World) (hS : PS p w s) (hgood : s.good = true) (hK : s.headK = 1) (hD : s.down.good = true) (hf : folds nm = true) (hc : (nm == (⟨#[99, 111, 117, 110, 116]⟩ : ByteArray).data.toList) = false) (hdp : DP E) (hq : ∀ w', PS p w' (s.down.step.need 4 ⟨#[40]⟩) → Calls Tryz.prog 21 #[.pointer (some ⟨p, 0, none⟩)] w' (Px p w' (E (s.down.step.need 4 ⟨#[40]⟩)))) : Calls Tryz.prog 134 #[.pointer (some ⟨p, 0, none⟩), .string (txt nm)] w (Px p w (callS E nm s)) := by
  have hpw := hS.lt
  have hG := fun o => (Gr.refl w).alloc o
  have hS0 := fun o => hS.keep (hG o)
  have eR : callS E nm s = (.mk { op := 4, name := txt nm } [(E (s.down.step.need 4 ⟨#[40]⟩)).1], ((E (s.down.step.need 4 ⟨#[40]⟩)).2.need 4 ⟨#[41]⟩).up) := by
    unfold callS; simp only [hD, hc, hf, if_true, if_false, Bool.and_false, Bool.false_and, Bool.false_eq_true]
  rw [eR]
  clear eR
  have hup : Hid (∀ l d, (E (s.down.step.need 4 ⟨#[40]⟩)).2.need 4 ⟨#[41]⟩ = .ok l d → 1 ≤ d) := hid (down_deep hD (As.trans (as_need _ _ _) (As.trans (hdp _) (As.trans (as_need _ _ _) (as_step s.down))))).1
  obtain ⟨s1, hs1⟩ : ∃ s1, s.down.step.need 4 ⟨#[40]⟩ = s1 := ⟨_, rfl⟩
  rw [hs1] at hup hq
  rw [hs1]
  generalize hQ : E s1 = Q at *
  have hfo := fun w => folds_any (txt nm) w
  rw [txt_list, hf] at hfo
  go_enter_defers Tryz.func134, Tryz.ntmps134
  go_wp2_with fail
  refine (hfo _).mono ?_
  rintro e w1 ⟨rfl, hg1⟩
  have hps1 := (hS0 _).keep hg1
  go_wp2_with fail
  refine (down_any p s _ hps1 hgood).mono ?_
  rintro e w2 ⟨rfl, hps2, hg2⟩
  rw [hD]
  have z1 := hg1.size
  have z2 := hg2.size
  simp only [World.size_alloc] at z1
  have h02 : w2.heap[w.heap.size]? = some (.cells zeroX 26 (0, 0)) := by
    rw [hg2.get (by omega) (by omega), hg1.block _ (by simp)]; exact alloc_at _ _
  have hgo2 : Go1 p w w2 := ((Go1.of (hG _)).trans (.of hg1)).trans hg2
  clear hg1 hg2 hps1 hS0 hG hS
  obtain ⟨d1, d2, d3, d4⟩ := down_good hD
  have hk5 : s.down.headK ≠ 5 := by rw [d3]; omega
  go_wp2_with fail
  refine (step_any p s.down _ hps2 hk5 hD).mono ?_
  rintro e w3 ⟨rfl, hps3, hg3⟩
  go_wp2_with fail
  refine (must_any p ⟨#[40]⟩ _ _ hps3).mono ?_
  rintro e w4 ⟨rfl, hps4, hg4⟩
  have hgo4 := (hgo2.trans hg3).trans hg4
  have h04 : w4.heap[w.heap.size]? = some (.cells zeroX 26 (0, 0)) := by
    rw [hg4.get (by have := hg3.size; omega) (by omega), hg3.get (by omega) (by omega)]; exact h02
  have z4 := (hg3.trans hg4).size
  clear hps2 hps3 hg3 hg4 hgo2 h02
  rw [hs1] at hps4
  have tc : ((txt nm).toList == [99, 111, 117, 110, 116]) = false := by rw [ByteArray.toList_eq, txt_list]; exact hc
  generalize txt nm = tn at *
  clear hc
  have hps5 := hps4
  have h05 := h04
  have hgo5 := hgo4
  have z5 := hgo5.size
  have hl5 : w.heap.size < w4.heap.size := (Array.getElem?_eq_some_iff.1 h05).1
  go_wp2_with fail
  refine (hq _ hps5).mono ?_
  rintro e w6 ⟨u, rfl, r, x, rfl, hx, hps6, hg6, hgd⟩
  unfold XR.val
  have hA6 := fun o => (Gr.refl w6).alloc o
  have hps7 := fun o => hps6.keep (hA6 o)
  have z6 := hg6.size
  go_wp2_with fail
  refine (must_any p ⟨#[41]⟩ _ _ (hps7 _)).mono ?_
  rintro e w8 ⟨rfl, hps8, hg8⟩
  have z8 := hg8.size
  simp only [World.size_alloc] at z8
  have hp6 := hps6.lt
  have hr8 : w8.heap[w6.heap.size]? = some (.cells r.cells 26 (0, 0)) := by
    rw [hg8.get (by simp) (by omega)]; exact alloc_at _ _
  have h08 : w8.heap[w.heap.size]? = some (.cells zeroX 26 (0, 0)) := by
    rw [hg8.get (by simp; omega) (by omega), (hA6 _).block _ (by omega), hg6.get hl5 (by omega)]; exact h05
  have hx8 : Ex.At (fun b => w.heap.size ≤ b ∧ b ≠ w.heap.size) w8 x r := by
    refine ((hx.of (by simp) (fun b hb hl => (hA6 (.cells r.cells 26)).block b hl)).of hg8.size (fun b hb hl => hg8.get hl (by have : w4.heap.size ≤ b := hb; omega))).mono (fun b _ hb => by have : w4.heap.size ≤ b := hb; exact ⟨by omega, by omega⟩)
  have hgo8 : Go1 p w w8 := ((hgo5.trans hg6).block2 (hA6 _)).trans hg8
  have cE := Rg.blk_cells hr8
  simp only [XR.cells] at cE
  have hl8 : w.heap.size < w8.heap.size := (Array.getElem?_eq_some_iff.1 h08).1
  have hA8 := fun o => (Gr.refl w8).alloc o
  have H06 : Hid (∀ o, (w8.alloc o).heap[w.heap.size]? = some (.cells zeroX 26 (0, 0))) := hid (fun o => by rw [(hA8 o).block _ hl8]; exact h08)
  have HZ : Hid (w.heap.size < (w8.alloc (.cells r.cells 26)).heap.size) := hid (by simp; omega)
  have HPS := hid (hps8.keep (hA8 (.cells r.cells 26)))
  have HGO := hid (hgo8.block2 (hA8 (.cells r.cells 26)))
  have HX8 := hid ((hx8.of (hA8 (.cells r.cells 26)).size (fun b hb hl => (hA8 _).block b hl)))
  have HGD : Hid (((Q.2.need 4 ⟨#[41]⟩).up).good = true → x = Q.1) := hid (fun h => hgd (need_good (up_good h)))
  clear hps4 hps5 hps6 hps7 hps8 hg6 hg8 hgo4 hgo5 hgo8 h04 h05 h08 hx hx8 hr8 hgd hq hA6 hA8
  have FI : Hid (∀ W5 w9, Go1 w.heap.size (w8.alloc (.cells r.cells 26)) W5 → Go1 p W5 w9 → PS p w9 (Ps.up (Q.2.need 4 ⟨#[41]⟩)) → Rx p w (.mk { op := 4, name := tn } [Q.1], (Q.2.need 4 ⟨#[41]⟩).up) (XR.val ⟨{ op := 4, name := tn }, some ⟨w8.heap.size, 0, none⟩, 1, 1⟩) w9) := hid (fun W5 w9 h5 h9 hp9 => by
    refine ⟨⟨{ op := 4, name := tn }, some ⟨w8.heap.size, 0, none⟩, 1, 1⟩, .mk { op := 4, name := tn } [x], rfl, ?_, hp9, (HGO.out.own h5 (by omega)).trans h9, fun h => by rw [HGD.out h]⟩
    refine (((formN (S := fun b => w.heap.size ≤ b ∧ b ≠ w.heap.size) (rs := [r]) ⟨by omega, by omega⟩ (alloc_at w8 (.cells r.cells 26)) (by simp [cellsF, xF]) (Exs.At.cons HX8.out Exs.At.nil) (fit_le 1 (by decide))).of h5.size (fun b hb hl => h5.get hl hb.2)).of h9.size (fun b hb hl => h9.get hl (by have := hb.1; omega))).mono (fun b _ hb => hb.1))
  have HPD : Hid (∀ W5, Go1 w.heap.size (w8.alloc (.cells r.cells 26)) W5 → PS p W5 (Q.2.need 4 ⟨#[41]⟩)) := hid (fun W5 h5 => HPS.out.go h5 (by omega))
  go_wp2_with (guard_target =~ wpList _ _ _ (Oper.mk _ (Op.store 26 _ _) _ _ _ _ :: _) _ _; refine st_row (ty := 26) rfl rfl w.heap.size _ rfl rfl 26 _ (H06.out _) (by kernel_rfl) rfl (by kernel_rfl) ?_; intro W5 hW5 gW5 zW5)
  (try simp only [Exit.inBlock, Exit.then])
  have hp5 : PS p W5 (Q.2.need 4 ⟨#[41]⟩) := HPD.out W5 gW5
  refine leaves_cons (f := 90) (args := #[.pointer (some ⟨p, 0, none⟩)]) (by simp) (by simp [go_sem]) ?_
  refine (up_dfr p (Q.2.need 4 ⟨#[41]⟩) W5 .returning hp5 hup.out).mono ?_
  rintro e u' w9 ⟨rfl, rfl, hps9, hg9⟩
  have hT : ∀ i, w9.cell? ⟨w.heap.size, i, none⟩ = _ := fun i => (hg9.cell (by rw [zW5]; exact HZ.out) (by omega)).trans (Rg.blk_cells hW5 i)
  exact ⟨XR.val ⟨{ op := 4, name := tn }, some ⟨w8.heap.size, 0, none⟩, 1, 1⟩, by simp [results, Tryz.results134, go_sem, XR.val, nul, hT]; try rfl, _, rfl, FI.out W5 w9 gW5 hg9 hps9⟩
set_option maxHeartbeats 8000000 in
set_option maxRecDepth 100000 in
theorem call_call (E : Pa Ex) (p : Nat) (nm : List UInt8) (s : Ps) (w : World) (hS : PS p w s) (hgood : s.good = true) (hK : s.headK = 1) (hD : s.down.good = true) (hf : folds nm = false) (hc : (nm == (⟨#[99, 111, 117, 110, 116]⟩ : ByteArray).data.toList) = false) (hdp : DP E) (hq : ∀ w', PS p w' (s.down.step.need 4 ⟨#[40]⟩) → Calls Tryz.prog 122 #[.pointer (some ⟨p, 0, none⟩)] w' (Pxs p w' (sep E (s.down.step.need 4 ⟨#[40]⟩)))) : Calls Tryz.prog 134 #[.pointer (some ⟨p, 0, none⟩), .string (txt nm)] w (Px p w (callS E nm s)) := by
  have hpw := hS.lt
  have hG := fun o => (Gr.refl w).alloc o
  have hS0 := fun o => hS.keep (hG o)
  have eR : callS E nm s = (.mk { op := 5, name := txt nm } (sep E (s.down.step.need 4 ⟨#[40]⟩)).1, ((sep E (s.down.step.need 4 ⟨#[40]⟩)).2.need 4 ⟨#[41]⟩).up) := by
    unfold callS; simp only [hD, hc, hf, if_true, if_false, Bool.false_and, Bool.false_eq_true]
  rw [eR]
  clear eR
  have hup : Hid (∀ l d, (sep E (s.down.step.need 4 ⟨#[40]⟩)).2.need 4 ⟨#[41]⟩ = .ok l d → 1 ≤ d) := hid (down_deep hD (As.trans (as_need _ _ _) (As.trans (dp_sep hdp _) (As.trans (as_need _ _ _) (as_step s.down))))).1
  obtain ⟨s1, hs1⟩ : ∃ s1, s.down.step.need 4 ⟨#[40]⟩ = s1 := ⟨_, rfl⟩
  rw [hs1] at hup hq
  rw [hs1]
  generalize hQ : sep E s1 = Q at *
  have hfo := fun w => folds_any (txt nm) w
  rw [txt_list, hf] at hfo
  go_enter_defers Tryz.func134, Tryz.ntmps134
  go_wp2_with fail
  refine (hfo _).mono ?_
  rintro e w1 ⟨rfl, hg1⟩
  have hps1 := (hS0 _).keep hg1
  go_wp2_with fail
  refine (down_any p s _ hps1 hgood).mono ?_
  rintro e w2 ⟨rfl, hps2, hg2⟩
  rw [hD]
  have z1 := hg1.size
  have z2 := hg2.size
  simp only [World.size_alloc] at z1
  have h02 : w2.heap[w.heap.size]? = some (.cells zeroX 26 (0, 0)) := by
    rw [hg2.get (by omega) (by omega), hg1.block _ (by simp)]; exact alloc_at _ _
  have hgo2 : Go1 p w w2 := ((Go1.of (hG _)).trans (.of hg1)).trans hg2
  clear hg1 hg2 hps1 hS0 hG hS
  obtain ⟨d1, d2, d3, d4⟩ := down_good hD
  have hk5 : s.down.headK ≠ 5 := by rw [d3]; omega
  go_wp2_with fail
  refine (step_any p s.down _ hps2 hk5 hD).mono ?_
  rintro e w3 ⟨rfl, hps3, hg3⟩
  go_wp2_with fail
  refine (must_any p ⟨#[40]⟩ _ _ hps3).mono ?_
  rintro e w4 ⟨rfl, hps4, hg4⟩
  have hgo4 := (hgo2.trans hg3).trans hg4
  have h04 : w4.heap[w.heap.size]? = some (.cells zeroX 26 (0, 0)) := by
    rw [hg4.get (by have := hg3.size; omega) (by omega), hg3.get (by omega) (by omega)]; exact h02
  have z4 := (hg3.trans hg4).size
  clear hps2 hps3 hg3 hg4 hgo2 h02
  rw [hs1] at hps4
  have tc : ((txt nm).toList == [99, 111, 117, 110, 116]) = false := by rw [ByteArray.toList_eq, txt_list]; exact hc
  generalize txt nm = tn at *
  clear hc
  have z5 := hgo4.size
  have hl5 : w.heap.size < w4.heap.size := (Array.getElem?_eq_some_iff.1 h04).1
  go_wp2_with fail
  refine (hq _ hps4).mono ?_
  rintro e w6 ⟨u, rfl, oa, n, cap, xs, rfl, hx, hps6, hg6, hlen, hnil, hgd⟩
  have z6 := hg6.size
  go_wp2_with fail
  refine (must_any p ⟨#[41]⟩ _ _ hps6).mono ?_
  rintro e w8 ⟨rfl, hps8, hg8⟩
  have z8 := hg8.size
  have hx8 : XsAt (fun b => w.heap.size ≤ b ∧ b ≠ w.heap.size) w8 xs oa n cap :=
    (hx.of hg8.size (fun b hb hl => hg8.get hl (by have : w4.heap.size ≤ b := hb; omega))).mono (fun b _ hb => by have : w4.heap.size ≤ b := hb; exact ⟨by omega, by omega⟩)
  have H06 : Hid (w8.heap[w.heap.size]? = some (.cells zeroX 26 (0, 0))) := hid (by
    rw [hg8.get (by omega) (by omega), hg6.get hl5 (by omega)]; exact h04)
  have HZ : Hid (w.heap.size < w8.heap.size) := hid (by omega)
  have HPS := hid hps8
  have HGO := hid ((hgo4.trans hg6).trans hg8)
  have HX8 := hid hx8
  have HGD : Hid (((Q.2.need 4 ⟨#[41]⟩).up).good = true → xs = Q.1) := hid (fun h => hgd (need_good (up_good h)))
  clear hps4 hps6 hps8 hg6 hg8 hgo4 h04 hx hx8 hgd hq hlen hnil
  have FI : Hid (∀ W5 w9, Go1 w.heap.size w8 W5 → Go1 p W5 w9 → PS p w9 (Ps.up (Q.2.need 4 ⟨#[41]⟩)) → Rx p w (.mk { op := 5, name := tn } Q.1, (Q.2.need 4 ⟨#[41]⟩).up) (XR.val ⟨{ op := 5, name := tn }, oa, n, cap⟩) w9) := hid (fun W5 w9 h5 h9 hp9 => by
    refine ⟨⟨{ op := 5, name := tn }, oa, n, cap⟩, .mk { op := 5, name := tn } xs, rfl, ?_, hp9, (HGO.out.own h5 (by omega)).trans h9, fun h => by rw [HGD.out h]⟩
    refine (((Ex.At.list.2 ⟨rfl, HX8.out⟩ : Ex.At (fun b => w.heap.size ≤ b ∧ b ≠ w.heap.size) w8 (.mk { op := 5, name := tn } xs) ⟨{ op := 5, name := tn }, oa, n, cap⟩).of h5.size (fun b hb hl => h5.get hl hb.2)).of h9.size (fun b hb hl => h9.get hl (by have := hb.1; omega))).mono (fun b _ hb => hb.1))
  have HPD : Hid (∀ W5, Go1 w.heap.size w8 W5 → PS p W5 (Q.2.need 4 ⟨#[41]⟩)) := hid (fun W5 h5 => HPS.out.go h5 (by omega))
  go_wp2_with (guard_target =~ wpList _ _ _ (Oper.mk _ (Op.store 26 _ _) _ _ _ _ :: _) _ _; refine st_row (ty := 26) rfl rfl w.heap.size _ rfl rfl 26 _ (H06.out) (by kernel_rfl) rfl (by kernel_rfl) ?_; intro W5 hW5 gW5 zW5)
  (try simp only [Exit.inBlock, Exit.then])
  have hp5 : PS p W5 (Q.2.need 4 ⟨#[41]⟩) := HPD.out W5 gW5
  refine leaves_cons (f := 90) (args := #[.pointer (some ⟨p, 0, none⟩)]) (by simp) (by simp [go_sem]) ?_
  refine (up_dfr p (Q.2.need 4 ⟨#[41]⟩) W5 .returning hp5 hup.out).mono ?_
  rintro e u' w9 ⟨rfl, rfl, hps9, hg9⟩
  have hT : ∀ i, w9.cell? ⟨w.heap.size, i, none⟩ = _ := fun i => (hg9.cell (by rw [zW5]; exact HZ.out) (by omega)).trans (Rg.blk_cells hW5 i)
  exact ⟨XR.val ⟨{ op := 5, name := tn }, oa, n, cap⟩, by simp [results, Tryz.results134, go_sem, XR.val, nul, hT]; try rfl, _, rfl, FI.out W5 w9 gW5 hg9 hps9⟩
theorem count_folds {nm : List UInt8} (h : (nm == (⟨#[99, 111, 117, 110, 116]⟩ : ByteArray).data.toList) = true) : folds nm = true := by unfold folds; rw [h]; rfl
theorem call_any (E : Pa Ex) (hdp : DP E) (p N : Nat) (hor : RdL 21 E p N) (hex : RdsL 122 (sep E) p N) (nm : List UInt8) (s : Ps) (w : World) (hS : PS p w s) (hgood : s.good = true) (hK : s.headK = 1) (hsN : s.size ≤ N) : Calls Tryz.prog 134 #[.pointer (some ⟨p, 0, none⟩), .string (txt nm)] w (Px p w (callS E nm s)) := by
  cases hD : s.down.good with
  | false => exact call_full E p nm s w hS hgood hD
  | true =>
    obtain ⟨d1, d2, d3, d4⟩ := down_good hD
    have h1 := (head_step (s := s.down) (k := 1) (by rw [d3]; exact hK) (by decide) (by decide)).1
    have h2 := size_need 4 ⟨#[40]⟩ s.down.step
    have hsz : (s.down.step.need 4 ⟨#[40]⟩).size < N := by omega
    cases hc : (nm == (⟨#[99, 111, 117, 110, 116]⟩ : ByteArray).data.toList) with
    | true =>
      cases hst : (s.down.step.need 4 ⟨#[40]⟩).is 4 ⟨#[42]⟩ with
      | true => exact call_star E p nm s w hS hgood hK hD hc hst
      | false => exact call_agg_count E p nm s w hS hgood hK hD (count_folds hc) hc hst hdp (fun w' h' => hor _ w' h' hsz)
    | false =>
      cases hf : folds nm with
      | true => exact call_agg_other E p nm s w hS hgood hK hD hf hc hdp (fun w' h' => hor _ w' h' hsz)
      | false => exact call_call E p nm s w hS hgood hK hD hf hc hdp (fun w' h' => hex _ w' h' hsz)
end Go.Proofs.YtbeinfhgfflneaaGreat
end
section
namespace Go.Proofs.YtbeinfhgfflneaaGreat
open Go.RowKit
set_option linter.unusedSimpArgs false
set_option linter.unusedVariables false
set_option maxHeartbeats 4000000 in
set_option maxRecDepth 100000 in
theorem may_no (p : Nat) (k : Nat) (c : ByteArray) (s : Ps) (w : World) (h : PS p w s) (hB : s.is k c = false) : Calls Tryz.prog 66 #[.pointer (some ⟨p, 0, none⟩), .int .i64 (k : Int), .string c] w fun e w' => e = .returned (.bool false) ∧ w' = w := by
  have H := is_any p k c s w h
  rw [hB] at H
  clear h hB
  go_enter Tryz.func66, Tryz.ntmps66
  go_wp2_with fail
  refine H.mono ?_
  rintro e w1 ⟨rfl, rfl⟩
  go_wp2
  go_ret
  exact ⟨rfl, rfl⟩
set_option maxHeartbeats 4000000 in
set_option maxRecDepth 100000 in
theorem word_no (p : Nat) (c : ByteArray) (s : Ps) (w : World) (h : PS p w s) (hB : s.is 1 c = false) : Calls Tryz.prog 35 #[.pointer (some ⟨p, 0, none⟩), .string c] w fun e w' => e = .returned (.bool false) ∧ w' = w := by
  have H : Calls Tryz.prog 66 #[.pointer (some ⟨p, 0, none⟩), .int .i64 1, .string c] w fun e w' => e = .returned (.bool false) ∧ w' = w := may_no p 1 c s w h hB
  clear h hB
  go_enter Tryz.func35, Tryz.ntmps35
  go_wp2_with fail
  refine H.mono ?_
  rintro e w1 ⟨rfl, rfl⟩
  go_wp2
  go_ret
  exact ⟨rfl, rfl⟩
end Go.Proofs.YtbeinfhgfflneaaGreat
end
section
namespace Go.Proofs.YtbeinfhgfflneaaGreat
open Go.RowKit
set_option linter.unusedSimpArgs false
set_option linter.unusedVariables false
attribute [local go_sem] Rg.leads_value Rg.leads_skip Rg.leads_enter Rg.brings_value Rg.brings_skip Rg.brings_enter Rg.bringsG_value Rg.bringsG_enter Rg.once_normal Rg.once_exit Rg.once_ret Rg.once_panic Rg.once_goto
set_option maxHeartbeats 8000000 in
set_option maxRecDepth 100000 in
theorem single_bad (E : Pa Ex) (p : Nat) (e : Int) (a : Nat) (w : World) (hS : PS p w (.bad e a)) : Calls Tryz.prog 130 #[.pointer (some ⟨p, 0, none⟩)] w (Px p w (single E (.bad e a))) := by
  have hpw := hS.lt
  have hS2 := hS
  obtain ⟨he, l, d, h⟩ := hS2
  obtain ⟨oa, cap, hh, hc, hat, hne⟩ := h.ex
  have hpos := h.tok.pos
  have r0 := Rg.blk_cells hh 0
  have r2 := Rg.blk_cells hh 2
  simp only [List.getElem?_toArray, List.getElem?_cons_zero, List.getElem?_cons_succ] at r0 r2
  obtain ⟨b, off, hoa, hb, c0, c1, c2, c3⟩ := t_get hat 0 hpos
  simp only [Nat.zero_mul, Nat.add_zero] at c0 c1 c2 c3
  subst hoa
  generalize l[0].tk.kind = tk at *
  generalize l[0].tk.num = tn at *
  generalize l[0].pos = tp at *
  generalize txt l[0].tk.text = tx at *
  generalize l.length = n at *
  have g2 : (0 : Int) < (n : Int) := by omega
  have q1 : (e != 0) = true := by simpa using he
  have hA1 := fun o => (Gr.refl w).alloc o
  have hA := fun o1 o2 => (hA1 o1).alloc o2
  have eR : (single E (.bad e a)).2 = .bad e a := rfl
  generalize single E (.bad e a) = R at *
  have FI : Hid (∀ o1 o2 W5, Go1 w.heap.size ((w.alloc o1).alloc o2) W5 → Rx p w R (XR.val ⟨{ op := 0 }, none, 0, 0⟩) W5) := hid (fun o1 o2 W5 h5 => giveG hpw rfl (formZ (hd := { op := 0 }) (S := fun b => w.heap.size ≤ b ∧ b ≠ w.heap.size)) (by rw [eR]; exact hS.keep (hA o1 o2)) (Go1.of (hA o1 o2)) (fun h => by rw [eR] at h; cases h) h5)
  have H05 : Hid (∀ o2, ((w.alloc (.cells zeroX 26)).alloc o2).heap[w.heap.size]? = some (.cells zeroX 26 (0, 0))) := hid (fun o2 => by rw [((Gr.refl _).alloc _).block _ (by simp)]; exact alloc_at _ _)
  clear h hat hne hh hS hA hA1 eR
  go_enter Tryz.func130, Tryz.ntmps130
  go_wp2_with (guard_target =~ wpList _ _ _ (Oper.mk _ (Op.store 26 _ _) _ _ _ _ :: _) _ _; refine st_row (ty := 26) rfl rfl w.heap.size _ rfl rfl 26 _ (H05.out _) (by kernel_rfl) rfl (by kernel_rfl) ?_; intro W5 hW5 gW5 zW5)
  (try change bodyPost _ _ _ _ _ _)
  have hT := Rg.blk_cells hW5
  refine bodyPost_ret (v := XR.val ⟨{ op := 0 }, none, 0, 0⟩) (by simp [results, Tryz.results130, go_sem, XR.val, nul, hT]; try rfl) rfl ⟨_, rfl, FI.out _ _ W5 gW5⟩
set_option maxHeartbeats 8000000 in
set_option maxRecDepth 100000 in
theorem single_int (E : Pa Ex) (p : Nat) (t : Lx.Tok) (tr : List Lx.Tok) (d : Nat) (s : Ps) (hs : s = .ok (t :: tr) d) (w : World) (hS : PS p w s) (hk : t.tk.kind = 2) : Calls Tryz.prog 130 #[.pointer (some ⟨p, 0, none⟩)] w (Px p w (single E s)) := by
  have hpw := hS.lt
  have hgood : s.good = true := by rw [hs]; rfl
  have hheadK : s.headK = t.tk.kind := by rw [hs]; rfl
  have hheadT : s.headT = t.tk.text := by rw [hs]; rfl
  have hheadN : s.headN = t.tk.num := by rw [hs]; rfl
  have hS2 := hS
  rw [hs] at hS2
  obtain ⟨hd, h⟩ := hS2
  obtain ⟨oa, cap, hh, hc, hat, hne⟩ := h.ex
  have r0 := Rg.blk_cells hh 0
  have r2 := Rg.blk_cells hh 2
  simp only [List.getElem?_toArray, List.getElem?_cons_zero, List.getElem?_cons_succ] at r0 r2
  obtain ⟨b, off, hoa, hb, c0, c1, c2, c3⟩ := t_get hat 0 (by simp)
  simp only [List.getElem_cons_zero, Nat.zero_mul, Nat.add_zero] at c0 c1 c2 c3
  subst hoa
  obtain ⟨n, hn⟩ : ∃ n, (t :: tr).length = n := ⟨_, rfl⟩
  have hn1 : 1 ≤ n := by rw [← hn]; simp
  rw [hn] at r0 hc
  have g2 : (0 : Int) < (n : Int) := by omega
  have hA1 := fun o => (Gr.refl w).alloc o
  have hA := fun o1 o2 => (hA1 o1).alloc o2
  have hS0 := fun o1 o2 => hS.keep (hA o1 o2)
  have eR : single E s = (litE (numV (t.tk.num : Int)), s.step) := by
    unfold single; rw [hheadK, hk, hheadN]; rfl
  rw [eR]
  clear eR
  have q1 : ((t.tk.kind : Int) == 2) = true := by rw [hk]; rfl
  have hk5 : s.headK ≠ 5 := by rw [hheadK]; omega
  generalize hk0 : t.tk.kind = tk at *
  generalize ht0 : t.tk.text = tx at *
  generalize hm0 : t.tk.num = tn at *
  generalize t.pos = tp at *
  clear h hat hne hh hn hs hS hk0 ht0 hm0
  go_enter Tryz.func130, Tryz.ntmps130
  go_wp2_with fail
  refine (step_any p s _ (hS0 _ _) hk5 hgood).mono ?_
  rintro e w1 ⟨rfl, hps1, hg1⟩
  have z1 := hg1.size
  simp only [World.size_alloc] at z1
  have hcc : ∀ i, w1.cell? ⟨w.heap.size + 1, i, none⟩ = (#[.int .i64 2, .string (txt tx), .int .i64 (tn : Int), .int .i64 (tp : Int)] : Array Value)[i]? := fun i => by
    rw [hg1.cell (by simp) (by omega)]
    rw [show w.heap.size + 1 = (w.alloc (.cells zeroX 26)).heap.size from (World.size_alloc w (.cells zeroX 26)).symm]
    exact Rg.blk_cells (alloc_at _ _) i
  have h01 : w1.heap[w.heap.size]? = some (.cells zeroX 26 (0, 0)) := by
    rw [hg1.get (by simp; omega) (by omega), ((Gr.refl _).alloc _).block _ (by simp)]
    exact alloc_at _ _
  have hgo1 : Go1 p w w1 := (Go1.of (hA _ _)).trans hg1
  go_wp2_with fail
  refine (lit_any (numV (tn : Int)) _).mono ?_
  rintro e w2 ⟨rfl, hg2⟩
  have hps2 := hps1.keep hg2
  have hgo2 := hgo1.block2 hg2
  have FI : Hid (∀ W5, Go1 w.heap.size w2 W5 → Rx p w (litE (numV (tn : Int)), s.step) (XR.val ⟨{ op := 1, v := (numV (tn : Int)) }, none, 0, 0⟩) W5) := hid (fun W5 h5 => giveG (R := (litE (numV (tn : Int)), s.step)) hpw rfl (formZ (S := fun b => w.heap.size ≤ b ∧ b ≠ w.heap.size)) hps2 hgo2 (fun _ => rfl) h5)
  have H05 : Hid (w2.heap[w.heap.size]? = some (.cells zeroX 26 (0, 0))) := hid (by rw [hg2.block _ (by omega)]; exact h01)
  clear hps1 hps2 hgo1 hgo2 hg1 hg2 h01 hcc hS0 hA hA1
  unfold XR.val
  go_wp2_with (guard_target =~ wpList _ _ _ (Oper.mk _ (Op.store 26 _ _) _ _ _ _ :: _) _ _; refine st_row (ty := 26) rfl rfl w.heap.size _ rfl rfl 26 _ (H05.out) (by kernel_rfl) rfl (by kernel_rfl) ?_; intro W5 hW5 gW5 zW5)
  (try change bodyPost _ _ _ _ _ _)
  have hT := Rg.blk_cells hW5
  refine bodyPost_ret (v := XR.val ⟨{ op := 1, v := (numV (tn : Int)) }, none, 0, 0⟩) (by simp [results, Tryz.results130, go_sem, XR.val, nul, hT]; try rfl) rfl ⟨_, rfl, FI.out W5 gW5⟩
set_option maxHeartbeats 8000000 in
set_option maxRecDepth 100000 in
theorem single_text (E : Pa Ex) (p : Nat) (t : Lx.Tok) (tr : List Lx.Tok) (d : Nat) (s : Ps) (hs : s = .ok (t :: tr) d) (w : World) (hS : PS p w s) (hk : t.tk.kind = 3) : Calls Tryz.prog 130 #[.pointer (some ⟨p, 0, none⟩)] w (Px p w (single E s)) := by
  have hpw := hS.lt
  have hgood : s.good = true := by rw [hs]; rfl
  have hheadK : s.headK = t.tk.kind := by rw [hs]; rfl
  have hheadT : s.headT = t.tk.text := by rw [hs]; rfl
  have hheadN : s.headN = t.tk.num := by rw [hs]; rfl
  have hS2 := hS
  rw [hs] at hS2
  obtain ⟨hd, h⟩ := hS2
  obtain ⟨oa, cap, hh, hc, hat, hne⟩ := h.ex
  have r0 := Rg.blk_cells hh 0
  have r2 := Rg.blk_cells hh 2
  simp only [List.getElem?_toArray, List.getElem?_cons_zero, List.getElem?_cons_succ] at r0 r2
  obtain ⟨b, off, hoa, hb, c0, c1, c2, c3⟩ := t_get hat 0 (by simp)
  simp only [List.getElem_cons_zero, Nat.zero_mul, Nat.add_zero] at c0 c1 c2 c3
  subst hoa
  obtain ⟨n, hn⟩ : ∃ n, (t :: tr).length = n := ⟨_, rfl⟩
  have hn1 : 1 ≤ n := by rw [← hn]; simp
  rw [hn] at r0 hc
  have g2 : (0 : Int) < (n : Int) := by omega
  have hA1 := fun o => (Gr.refl w).alloc o
  have hA := fun o1 o2 => (hA1 o1).alloc o2
  have hS0 := fun o1 o2 => hS.keep (hA o1 o2)
  have eR : single E s = (litE (textV (txt t.tk.text)), s.step) := by
    unfold single; rw [hheadK, hk, hheadT]; rfl
  rw [eR]
  clear eR
  have q1 : ((t.tk.kind : Int) == 2) = false := by rw [hk]; rfl
  have q2 : ((t.tk.kind : Int) == 3) = true := by rw [hk]; rfl
  have hk5 : s.headK ≠ 5 := by rw [hheadK]; omega
  generalize hk0 : t.tk.kind = tk at *
  generalize ht0 : t.tk.text = tx at *
  generalize hm0 : t.tk.num = tn at *
  generalize t.pos = tp at *
  clear h hat hne hh hn hs hS hk0 ht0 hm0
  go_enter Tryz.func130, Tryz.ntmps130
  go_wp2_with fail
  refine (step_any p s _ (hS0 _ _) hk5 hgood).mono ?_
  rintro e w1 ⟨rfl, hps1, hg1⟩
  have z1 := hg1.size
  simp only [World.size_alloc] at z1
  have hcc : ∀ i, w1.cell? ⟨w.heap.size + 1, i, none⟩ = (#[.int .i64 3, .string (txt tx), .int .i64 (tn : Int), .int .i64 (tp : Int)] : Array Value)[i]? := fun i => by
    rw [hg1.cell (by simp) (by omega)]
    rw [show w.heap.size + 1 = (w.alloc (.cells zeroX 26)).heap.size from (World.size_alloc w (.cells zeroX 26)).symm]
    exact Rg.blk_cells (alloc_at _ _) i
  have h01 : w1.heap[w.heap.size]? = some (.cells zeroX 26 (0, 0)) := by
    rw [hg1.get (by simp; omega) (by omega), ((Gr.refl _).alloc _).block _ (by simp)]
    exact alloc_at _ _
  have hgo1 : Go1 p w w1 := (Go1.of (hA _ _)).trans hg1
  go_wp2_with fail
  refine (lit_any (textV (txt tx)) _).mono ?_
  rintro e w2 ⟨rfl, hg2⟩
  have hps2 := hps1.keep hg2
  have hgo2 := hgo1.block2 hg2
  have FI : Hid (∀ W5, Go1 w.heap.size w2 W5 → Rx p w (litE (textV (txt tx)), s.step) (XR.val ⟨{ op := 1, v := (textV (txt tx)) }, none, 0, 0⟩) W5) := hid (fun W5 h5 => giveG (R := (litE (textV (txt tx)), s.step)) hpw rfl (formZ (S := fun b => w.heap.size ≤ b ∧ b ≠ w.heap.size)) hps2 hgo2 (fun _ => rfl) h5)
  have H05 : Hid (w2.heap[w.heap.size]? = some (.cells zeroX 26 (0, 0))) := hid (by rw [hg2.block _ (by omega)]; exact h01)
  clear hps1 hps2 hgo1 hgo2 hg1 hg2 h01 hcc hS0 hA hA1
  unfold XR.val
  go_wp2_with (guard_target =~ wpList _ _ _ (Oper.mk _ (Op.store 26 _ _) _ _ _ _ :: _) _ _; refine st_row (ty := 26) rfl rfl w.heap.size _ rfl rfl 26 _ (H05.out) (by kernel_rfl) rfl (by kernel_rfl) ?_; intro W5 hW5 gW5 zW5)
  (try change bodyPost _ _ _ _ _ _)
  have hT := Rg.blk_cells hW5
  refine bodyPost_ret (v := XR.val ⟨{ op := 1, v := (textV (txt tx)) }, none, 0, 0⟩) (by simp [results, Tryz.results130, go_sem, XR.val, nul, hT]; try rfl) rfl ⟨_, rfl, FI.out W5 gW5⟩
set_option maxHeartbeats 8000000 in
set_option maxRecDepth 100000 in
theorem single_true (E : Pa Ex) (p : Nat) (t : Lx.Tok) (tr : List Lx.Tok) (d : Nat) (s : Ps) (hs : s = .ok (t :: tr) d) (w : World) (hS : PS p w s) (hw : s.is 1 ⟨#[116, 114, 117, 101]⟩ = true) : Calls Tryz.prog 130 #[.pointer (some ⟨p, 0, none⟩)] w (Px p w (single E s)) := by
  have hpw := hS.lt
  have hgood : s.good = true := by rw [hs]; rfl
  have hheadK : s.headK = t.tk.kind := by rw [hs]; rfl
  have hheadT : s.headT = t.tk.text := by rw [hs]; rfl
  have hheadN : s.headN = t.tk.num := by rw [hs]; rfl
  have hS2 := hS
  rw [hs] at hS2
  obtain ⟨hd, h⟩ := hS2
  obtain ⟨oa, cap, hh, hc, hat, hne⟩ := h.ex
  have r0 := Rg.blk_cells hh 0
  have r2 := Rg.blk_cells hh 2
  simp only [List.getElem?_toArray, List.getElem?_cons_zero, List.getElem?_cons_succ] at r0 r2
  obtain ⟨b, off, hoa, hb, c0, c1, c2, c3⟩ := t_get hat 0 (by simp)
  simp only [List.getElem_cons_zero, Nat.zero_mul, Nat.add_zero] at c0 c1 c2 c3
  subst hoa
  obtain ⟨n, hn⟩ : ∃ n, (t :: tr).length = n := ⟨_, rfl⟩
  have hn1 : 1 ≤ n := by rw [← hn]; simp
  rw [hn] at r0 hc
  have g2 : (0 : Int) < (n : Int) := by omega
  have hA1 := fun o => (Gr.refl w).alloc o
  have hA := fun o1 o2 => (hA1 o1).alloc o2
  have hS0 := fun o1 o2 => hS.keep (hA o1 o2)
  have eR : single E s = (litE (boolV true), s.step) := by
    obtain ⟨_, hk1, _⟩ := is_head hw; unfold single; rw [hk1, hw]; rfl
  rw [eR]
  clear eR
  obtain ⟨_, hk1, ht1⟩ := is_head hw
  rw [hheadK] at hk1
  rw [hheadT] at ht1
  have q1 : ((t.tk.kind : Int) == 2) = false := by rw [hk1]; rfl
  have q2 : ((t.tk.kind : Int) == 3) = false := by rw [hk1]; rfl
  have hstep : (s.may 1 ⟨#[116, 114, 117, 101]⟩).2 = s.step := by simp [Ps.may, hw]
  have qt : ((txt t.tk.text).toList == [116, 114, 117, 101]) = true := by rw [ht1, ByteArray.toList_eq, txt_list]; decide
  generalize hk0 : t.tk.kind = tk at *
  generalize ht0 : t.tk.text = tx at *
  generalize hm0 : t.tk.num = tn at *
  generalize t.pos = tp at *
  clear h hat hne hh hn hs hS hk0 ht0 hm0 hk1 ht1
  go_enter Tryz.func130, Tryz.ntmps130
  go_wp2_with fail
  refine (word_any p ⟨#[116, 114, 117, 101]⟩ s _ (hS0 _ _)).mono ?_
  rintro e w1 ⟨rfl, hps1, hg1⟩
  rw [hw]
  rw [hstep] at hps1
  have z1 := hg1.size
  simp only [World.size_alloc] at z1
  have hcc : ∀ i, w1.cell? ⟨w.heap.size + 1, i, none⟩ = (#[.int .i64 (tk : Int), .string (txt tx), .int .i64 (tn : Int), .int .i64 (tp : Int)] : Array Value)[i]? := fun i => by
    rw [hg1.cell (by simp) (by omega)]
    rw [show w.heap.size + 1 = (w.alloc (.cells zeroX 26)).heap.size from (World.size_alloc w (.cells zeroX 26)).symm]
    exact Rg.blk_cells (alloc_at _ _) i
  have h01 : w1.heap[w.heap.size]? = some (.cells zeroX 26 (0, 0)) := by
    rw [hg1.get (by simp; omega) (by omega), ((Gr.refl _).alloc _).block _ (by simp)]
    exact alloc_at _ _
  have hgo1 : Go1 p w w1 := (Go1.of (hA _ _)).trans hg1
  go_wp2_with fail
  refine (lit_any (boolV true) _).mono ?_
  rintro e w2 ⟨rfl, hg2⟩
  have hps2 := hps1.keep hg2
  have hgo2 := hgo1.block2 hg2
  have FI : Hid (∀ W5, Go1 w.heap.size w2 W5 → Rx p w (litE (boolV true), s.step) (XR.val ⟨{ op := 1, v := (boolV true) }, none, 0, 0⟩) W5) := hid (fun W5 h5 => giveG (R := (litE (boolV true), s.step)) hpw rfl (formZ (S := fun b => w.heap.size ≤ b ∧ b ≠ w.heap.size)) hps2 hgo2 (fun _ => rfl) h5)
  have H05 : Hid (w2.heap[w.heap.size]? = some (.cells zeroX 26 (0, 0))) := hid (by rw [hg2.block _ (by omega)]; exact h01)
  clear hps1 hps2 hgo1 hgo2 hg1 hg2 h01 hcc hS0 hA hA1
  unfold XR.val
  go_wp2_with (guard_target =~ wpList _ _ _ (Oper.mk _ (Op.store 26 _ _) _ _ _ _ :: _) _ _; refine st_row (ty := 26) rfl rfl w.heap.size _ rfl rfl 26 _ (H05.out) (by kernel_rfl) rfl (by kernel_rfl) ?_; intro W5 hW5 gW5 zW5)
  (try change bodyPost _ _ _ _ _ _)
  have hT := Rg.blk_cells hW5
  refine bodyPost_ret (v := XR.val ⟨{ op := 1, v := (boolV true) }, none, 0, 0⟩) (by simp [results, Tryz.results130, go_sem, XR.val, nul, hT]; try rfl) rfl ⟨_, rfl, FI.out W5 gW5⟩
set_option maxHeartbeats 8000000 in
set_option maxRecDepth 100000 in
theorem single_false (E : Pa Ex) (p : Nat) (t : Lx.Tok) (tr : List Lx.Tok) (d : Nat) (s : Ps) (hs : s = .ok (t :: tr) d) (w : World) (hS : PS p w s) (hw : s.is 1 ⟨#[102, 97, 108, 115, 101]⟩ = true) (hn_true : s.is 1 ⟨#[116, 114, 117, 101]⟩ = false) : Calls Tryz.prog 130 #[.pointer (some ⟨p, 0, none⟩)] w (Px p w (single E s)) := by
  have hpw := hS.lt
  have hgood : s.good = true := by rw [hs]; rfl
  have hheadK : s.headK = t.tk.kind := by rw [hs]; rfl
  have hheadT : s.headT = t.tk.text := by rw [hs]; rfl
  have hheadN : s.headN = t.tk.num := by rw [hs]; rfl
  have hS2 := hS
  rw [hs] at hS2
  obtain ⟨hd, h⟩ := hS2
  obtain ⟨oa, cap, hh, hc, hat, hne⟩ := h.ex
  have r0 := Rg.blk_cells hh 0
  have r2 := Rg.blk_cells hh 2
  simp only [List.getElem?_toArray, List.getElem?_cons_zero, List.getElem?_cons_succ] at r0 r2
  obtain ⟨b, off, hoa, hb, c0, c1, c2, c3⟩ := t_get hat 0 (by simp)
  simp only [List.getElem_cons_zero, Nat.zero_mul, Nat.add_zero] at c0 c1 c2 c3
  subst hoa
  obtain ⟨n, hn⟩ : ∃ n, (t :: tr).length = n := ⟨_, rfl⟩
  have hn1 : 1 ≤ n := by rw [← hn]; simp
  rw [hn] at r0 hc
  have g2 : (0 : Int) < (n : Int) := by omega
  have hA1 := fun o => (Gr.refl w).alloc o
  have hA := fun o1 o2 => (hA1 o1).alloc o2
  have hS0 := fun o1 o2 => hS.keep (hA o1 o2)
  have eR : single E s = (litE (boolV false), s.step) := by
    obtain ⟨_, hk1, _⟩ := is_head hw; unfold single; rw [hk1, hn_true, hw]; rfl
  rw [eR]
  clear eR
  obtain ⟨_, hk1, ht1⟩ := is_head hw
  rw [hheadK] at hk1
  rw [hheadT] at ht1
  have q1 : ((t.tk.kind : Int) == 2) = false := by rw [hk1]; rfl
  have q2 : ((t.tk.kind : Int) == 3) = false := by rw [hk1]; rfl
  have hstep : (s.may 1 ⟨#[102, 97, 108, 115, 101]⟩).2 = s.step := by simp [Ps.may, hw]
  have qt : ((txt t.tk.text).toList == [116, 114, 117, 101]) = false := by rw [ht1, ByteArray.toList_eq, txt_list]; decide
  generalize hk0 : t.tk.kind = tk at *
  generalize ht0 : t.tk.text = tx at *
  generalize hm0 : t.tk.num = tn at *
  generalize t.pos = tp at *
  clear h hat hne hh hn hs hS hk0 ht0 hm0 hk1 ht1
  go_enter Tryz.func130, Tryz.ntmps130
  go_wp2_with fail
  refine (word_no p ⟨#[116, 114, 117, 101]⟩ s _ (hS0 _ _) hn_true).mono ?_
  rintro e w' ⟨rfl, rfl⟩
  go_wp2_with fail
  refine (word_any p ⟨#[102, 97, 108, 115, 101]⟩ s _ (hS0 _ _)).mono ?_
  rintro e w1 ⟨rfl, hps1, hg1⟩
  rw [hw]
  rw [hstep] at hps1
  have z1 := hg1.size
  simp only [World.size_alloc] at z1
  have hcc : ∀ i, w1.cell? ⟨w.heap.size + 1, i, none⟩ = (#[.int .i64 (tk : Int), .string (txt tx), .int .i64 (tn : Int), .int .i64 (tp : Int)] : Array Value)[i]? := fun i => by
    rw [hg1.cell (by simp) (by omega)]
    rw [show w.heap.size + 1 = (w.alloc (.cells zeroX 26)).heap.size from (World.size_alloc w (.cells zeroX 26)).symm]
    exact Rg.blk_cells (alloc_at _ _) i
  have h01 : w1.heap[w.heap.size]? = some (.cells zeroX 26 (0, 0)) := by
    rw [hg1.get (by simp; omega) (by omega), ((Gr.refl _).alloc _).block _ (by simp)]
    exact alloc_at _ _
  have hgo1 : Go1 p w w1 := (Go1.of (hA _ _)).trans hg1
  go_wp2_with fail
  refine (lit_any (boolV false) _).mono ?_
  rintro e w2 ⟨rfl, hg2⟩
  have hps2 := hps1.keep hg2
  have hgo2 := hgo1.block2 hg2
  have FI : Hid (∀ W5, Go1 w.heap.size w2 W5 → Rx p w (litE (boolV false), s.step) (XR.val ⟨{ op := 1, v := (boolV false) }, none, 0, 0⟩) W5) := hid (fun W5 h5 => giveG (R := (litE (boolV false), s.step)) hpw rfl (formZ (S := fun b => w.heap.size ≤ b ∧ b ≠ w.heap.size)) hps2 hgo2 (fun _ => rfl) h5)
  have H05 : Hid (w2.heap[w.heap.size]? = some (.cells zeroX 26 (0, 0))) := hid (by rw [hg2.block _ (by omega)]; exact h01)
  clear hps1 hps2 hgo1 hgo2 hg1 hg2 h01 hcc hS0 hA hA1
  unfold XR.val
  go_wp2_with (guard_target =~ wpList _ _ _ (Oper.mk _ (Op.store 26 _ _) _ _ _ _ :: _) _ _; refine st_row (ty := 26) rfl rfl w.heap.size _ rfl rfl 26 _ (H05.out) (by kernel_rfl) rfl (by kernel_rfl) ?_; intro W5 hW5 gW5 zW5)
  (try change bodyPost _ _ _ _ _ _)
  have hT := Rg.blk_cells hW5
  refine bodyPost_ret (v := XR.val ⟨{ op := 1, v := (boolV false) }, none, 0, 0⟩) (by simp [results, Tryz.results130, go_sem, XR.val, nul, hT]; try rfl) rfl ⟨_, rfl, FI.out W5 gW5⟩
set_option maxHeartbeats 8000000 in
set_option maxRecDepth 100000 in
theorem single_null (E : Pa Ex) (p : Nat) (t : Lx.Tok) (tr : List Lx.Tok) (d : Nat) (s : Ps) (hs : s = .ok (t :: tr) d) (w : World) (hS : PS p w s) (hw : s.is 1 ⟨#[110, 117, 108, 108]⟩ = true) (hn_true : s.is 1 ⟨#[116, 114, 117, 101]⟩ = false) (hn_false : s.is 1 ⟨#[102, 97, 108, 115, 101]⟩ = false) : Calls Tryz.prog 130 #[.pointer (some ⟨p, 0, none⟩)] w (Px p w (single E s)) := by
  have hpw := hS.lt
  have hgood : s.good = true := by rw [hs]; rfl
  have hheadK : s.headK = t.tk.kind := by rw [hs]; rfl
  have hheadT : s.headT = t.tk.text := by rw [hs]; rfl
  have hheadN : s.headN = t.tk.num := by rw [hs]; rfl
  have hS2 := hS
  rw [hs] at hS2
  obtain ⟨hd, h⟩ := hS2
  obtain ⟨oa, cap, hh, hc, hat, hne⟩ := h.ex
  have r0 := Rg.blk_cells hh 0
  have r2 := Rg.blk_cells hh 2
  simp only [List.getElem?_toArray, List.getElem?_cons_zero, List.getElem?_cons_succ] at r0 r2
  obtain ⟨b, off, hoa, hb, c0, c1, c2, c3⟩ := t_get hat 0 (by simp)
  simp only [List.getElem_cons_zero, Nat.zero_mul, Nat.add_zero] at c0 c1 c2 c3
  subst hoa
  obtain ⟨n, hn⟩ : ∃ n, (t :: tr).length = n := ⟨_, rfl⟩
  have hn1 : 1 ≤ n := by rw [← hn]; simp
  rw [hn] at r0 hc
  have g2 : (0 : Int) < (n : Int) := by omega
  have hA1 := fun o => (Gr.refl w).alloc o
  have hA := fun o1 o2 => (hA1 o1).alloc o2
  have hS0 := fun o1 o2 => hS.keep (hA o1 o2)
  have eR : single E s = (litE nul, s.step) := by
    obtain ⟨_, hk1, _⟩ := is_head hw; unfold single; rw [hk1, hn_true, hn_false, hw]; rfl
  rw [eR]
  clear eR
  obtain ⟨_, hk1, ht1⟩ := is_head hw
  rw [hheadK] at hk1
  rw [hheadT] at ht1
  have q1 : ((t.tk.kind : Int) == 2) = false := by rw [hk1]; rfl
  have q2 : ((t.tk.kind : Int) == 3) = false := by rw [hk1]; rfl
  have hstep : (s.may 1 ⟨#[110, 117, 108, 108]⟩).2 = s.step := by simp [Ps.may, hw]
  generalize hk0 : t.tk.kind = tk at *
  generalize ht0 : t.tk.text = tx at *
  generalize hm0 : t.tk.num = tn at *
  generalize t.pos = tp at *
  clear h hat hne hh hn hs hS hk0 ht0 hm0 hk1 ht1
  go_enter Tryz.func130, Tryz.ntmps130
  go_wp2_with fail
  refine (word_no p ⟨#[116, 114, 117, 101]⟩ s _ (hS0 _ _) hn_true).mono ?_
  rintro e w' ⟨rfl, rfl⟩
  go_wp2_with fail
  refine (word_no p ⟨#[102, 97, 108, 115, 101]⟩ s _ (hS0 _ _) hn_false).mono ?_
  rintro e w' ⟨rfl, rfl⟩
  go_wp2_with fail
  refine (word_any p ⟨#[110, 117, 108, 108]⟩ s _ (hS0 _ _)).mono ?_
  rintro e w1 ⟨rfl, hps1, hg1⟩
  rw [hw]
  rw [hstep] at hps1
  have z1 := hg1.size
  simp only [World.size_alloc] at z1
  have hcc : ∀ i, w1.cell? ⟨w.heap.size + 1, i, none⟩ = (#[.int .i64 (tk : Int), .string (txt tx), .int .i64 (tn : Int), .int .i64 (tp : Int)] : Array Value)[i]? := fun i => by
    rw [hg1.cell (by simp) (by omega)]
    rw [show w.heap.size + 1 = (w.alloc (.cells zeroX 26)).heap.size from (World.size_alloc w (.cells zeroX 26)).symm]
    exact Rg.blk_cells (alloc_at _ _) i
  have h01 : w1.heap[w.heap.size]? = some (.cells zeroX 26 (0, 0)) := by
    rw [hg1.get (by simp; omega) (by omega), ((Gr.refl _).alloc _).block _ (by simp)]
    exact alloc_at _ _
  have hgo1 : Go1 p w w1 := (Go1.of (hA _ _)).trans hg1
  go_wp2_with fail
  refine (lit_any nul _).mono ?_
  rintro e w2 ⟨rfl, hg2⟩
  have hps2 := hps1.keep hg2
  have hgo2 := hgo1.block2 hg2
  have FI : Hid (∀ W5, Go1 w.heap.size w2 W5 → Rx p w (litE nul, s.step) (XR.val ⟨{ op := 1, v := nul }, none, 0, 0⟩) W5) := hid (fun W5 h5 => giveG (R := (litE nul, s.step)) hpw rfl (formZ (S := fun b => w.heap.size ≤ b ∧ b ≠ w.heap.size)) hps2 hgo2 (fun _ => rfl) h5)
  have H05 : Hid (w2.heap[w.heap.size]? = some (.cells zeroX 26 (0, 0))) := hid (by rw [hg2.block _ (by omega)]; exact h01)
  clear hps1 hps2 hgo1 hgo2 hg1 hg2 h01 hcc hS0 hA hA1
  unfold XR.val
  go_wp2_with (guard_target =~ wpList _ _ _ (Oper.mk _ (Op.store 26 _ _) _ _ _ _ :: _) _ _; refine st_row (ty := 26) rfl rfl w.heap.size _ rfl rfl 26 _ (H05.out) (by kernel_rfl) rfl (by kernel_rfl) ?_; intro W5 hW5 gW5 zW5)
  (try change bodyPost _ _ _ _ _ _)
  have hT := Rg.blk_cells hW5
  refine bodyPost_ret (v := XR.val ⟨{ op := 1, v := nul }, none, 0, 0⟩) (by simp [results, Tryz.results130, go_sem, XR.val, nul, hT]; try rfl) rfl ⟨_, rfl, FI.out W5 gW5⟩
end Go.Proofs.YtbeinfhgfflneaaGreat
end
section
namespace Go.Proofs.YtbeinfhgfflneaaGreat
open Go.RowKit
set_option linter.unusedSimpArgs false
set_option linter.unusedVariables false
attribute [local go_sem] Rg.leads_value Rg.leads_skip Rg.leads_enter Rg.brings_value Rg.brings_skip Rg.brings_enter Rg.bringsG_value Rg.bringsG_enter Rg.once_normal Rg.once_exit Rg.once_ret Rg.once_panic Rg.once_goto
theorem is_other {s : Ps} {k k' : Nat} {c c' : ByteArray} (h : s.is k c = true) (hk : k ≠ k') : s.is k' c' = false := by
  match s, h with
  | .ok (t :: r) d, h =>
    simp [Ps.is] at h ⊢
    intro e
    exact absurd (h.1.symm.trans e) hk
set_option maxHeartbeats 8000000 in
set_option maxRecDepth 100000 in
theorem single_paren_full (E : Pa Ex) (p : Nat) (t : Lx.Tok) (tr : List Lx.Tok) (d : Nat) (s : Ps) (hs : s = .ok (t :: tr) d) (w : World) (hS : PS p w s) (hw : s.is 4 ⟨#[40]⟩ = true) (hD : s.down.good = false) : Calls Tryz.prog 130 #[.pointer (some ⟨p, 0, none⟩)] w (Px p w (single E s)) := by
  have hpw := hS.lt
  have hgood : s.good = true := by rw [hs]; rfl
  have hheadK : s.headK = t.tk.kind := by rw [hs]; rfl
  have hheadT : s.headT = t.tk.text := by rw [hs]; rfl
  have hheadN : s.headN = t.tk.num := by rw [hs]; rfl
  have hS2 := hS
  rw [hs] at hS2
  obtain ⟨hd, h⟩ := hS2
  obtain ⟨oa, cap, hh, hc, hat, hne⟩ := h.ex
  have r0 := Rg.blk_cells hh 0
  have r2 := Rg.blk_cells hh 2
  simp only [List.getElem?_toArray, List.getElem?_cons_zero, List.getElem?_cons_succ] at r0 r2
  obtain ⟨b, off, hoa, hb, c0, c1, c2, c3⟩ := t_get hat 0 (by simp)
  simp only [List.getElem_cons_zero, Nat.zero_mul, Nat.add_zero] at c0 c1 c2 c3
  subst hoa
  obtain ⟨n, hn⟩ : ∃ n, (t :: tr).length = n := ⟨_, rfl⟩
  have hn1 : 1 ≤ n := by rw [← hn]; simp
  rw [hn] at r0 hc
  have g2 : (0 : Int) < (n : Int) := by omega
  have hA1 := fun o => (Gr.refl w).alloc o
  have hA := fun o1 o2 => (hA1 o1).alloc o2
  have hS0 := fun o1 o2 => hS.keep (hA o1 o2)
  have eR : single E s = (noEx, s.down) := by
    obtain ⟨_, hk1, _⟩ := is_head hw; unfold single; rw [hk1, is_other hw (by decide), is_other hw (by decide), is_other hw (by decide), hw, hD]; rfl
  rw [eR]
  clear eR
  obtain ⟨_, hk1, ht1⟩ := is_head hw
  rw [hheadK] at hk1
  have q1 : ((t.tk.kind : Int) == 2) = false := by rw [hk1]; rfl
  have q2 : ((t.tk.kind : Int) == 3) = false := by rw [hk1]; rfl
  have w1a := is_other (k' := 1) (c' := ⟨#[116, 114, 117, 101]⟩) hw (by decide)
  have w1b := is_other (k' := 1) (c' := ⟨#[102, 97, 108, 115, 101]⟩) hw (by decide)
  have w1c := is_other (k' := 1) (c' := ⟨#[110, 117, 108, 108]⟩) hw (by decide)
  have h0a : ∀ o2, ((w.alloc (.cells zeroX 26)).alloc o2).heap[w.heap.size]? = some (.cells zeroX 26 (0, 0)) := fun o2 => by
    rw [((Gr.refl _).alloc _).block _ (by simp)]; exact alloc_at _ _
  generalize hk0 : t.tk.kind = tk at *
  generalize ht0 : t.tk.text = tx at *
  generalize hm0 : t.tk.num = tn at *
  generalize t.pos = tp at *
  clear h hat hne hh hn hs hS hk0 ht0 hm0 hk1 ht1 hheadK hheadT hheadN
  go_enter Tryz.func130, Tryz.ntmps130
  go_wp2_with fail
  refine (word_no p ⟨#[116, 114, 117, 101]⟩ s _ (hS0 _ _) w1a).mono ?_
  rintro e w' ⟨rfl, rfl⟩
  go_wp2_with fail
  refine (word_no p ⟨#[102, 97, 108, 115, 101]⟩ s _ (hS0 _ _) w1b).mono ?_
  rintro e w' ⟨rfl, rfl⟩
  go_wp2_with fail
  refine (word_no p ⟨#[110, 117, 108, 108]⟩ s _ (hS0 _ _) w1c).mono ?_
  rintro e w' ⟨rfl, rfl⟩
  go_wp2_with fail
  refine (is4_any p ⟨#[40]⟩ s _ (hS0 _ _)).mono ?_
  rintro e w' ⟨rfl, rfl⟩
  rw [hw]
  go_wp2_with fail
  refine (down_any p s _ (hS0 _ _) hgood).mono ?_
  rintro e w2 ⟨rfl, hps2, hg2⟩
  rw [hD]
  have z2 := hg2.size
  simp only [World.size_alloc] at z2
  have h02 : w2.heap[w.heap.size]? = some (.cells zeroX 26 (0, 0)) := by
    rw [hg2.get (by simp; omega) (by omega)]; exact h0a _
  have hgo2 : Go1 p w w2 := (Go1.of (hA _ _)).trans hg2
  clear hg2 hS0 hA hA1 h0a
  have FI : Hid (∀ W5, Go1 w.heap.size w2 W5 → Rx p w (noEx, s.down) (XR.val ⟨{ op := 0 }, none, 0, 0⟩) W5) := hid (fun W5 h5 => giveG hpw rfl (formZ (S := fun b => w.heap.size ≤ b ∧ b ≠ w.heap.size)) hps2 hgo2 (fun _ => rfl) h5)
  have H05 := hid h02
  clear hps2 hgo2 h02
  go_wp2_with (guard_target =~ wpList _ _ _ (Oper.mk _ (Op.store 26 _ _) _ _ _ _ :: _) _ _; refine st_row (ty := 26) rfl rfl w.heap.size _ rfl rfl 26 _ (H05.out) (by kernel_rfl) rfl (by kernel_rfl) ?_; intro W5 hW5 gW5 zW5)
  (try change bodyPost _ _ _ _ _ _)
  have hT := Rg.blk_cells hW5
  refine bodyPost_ret (v := XR.val ⟨{ op := 0 }, none, 0, 0⟩) (by simp [results, Tryz.results130, go_sem, XR.val, nul, hT]; try rfl) rfl ⟨_, rfl, FI.out W5 gW5⟩
set_option maxHeartbeats 8000000 in
set_option maxRecDepth 100000 in
theorem single_paren (E : Pa Ex) (p : Nat) (t : Lx.Tok) (tr : List Lx.Tok) (d : Nat) (s : Ps) (hs : s = .ok (t :: tr) d) (w : World) (hS : PS p w s) (hw : s.is 4 ⟨#[40]⟩ = true) (hD : s.down.good = true) (hdp : DP E) (hq : ∀ w', PS p w' s.down.step → Calls Tryz.prog 21 #[.pointer (some ⟨p, 0, none⟩)] w' (Px p w' (E s.down.step))) : Calls Tryz.prog 130 #[.pointer (some ⟨p, 0, none⟩)] w (Px p w (single E s)) := by
  have hpw := hS.lt
  have hgood : s.good = true := by rw [hs]; rfl
  have hheadK : s.headK = t.tk.kind := by rw [hs]; rfl
  have hheadT : s.headT = t.tk.text := by rw [hs]; rfl
  have hheadN : s.headN = t.tk.num := by rw [hs]; rfl
  have hS2 := hS
  rw [hs] at hS2
  obtain ⟨hd, h⟩ := hS2
  obtain ⟨oa, cap, hh, hc, hat, hne⟩ := h.ex
  have r0 := Rg.blk_cells hh 0
  have r2 := Rg.blk_cells hh 2
  simp only [List.getElem?_toArray, List.getElem?_cons_zero, List.getElem?_cons_succ] at r0 r2
  obtain ⟨b, off, hoa, hb, c0, c1, c2, c3⟩ := t_get hat 0 (by simp)
  simp only [List.getElem_cons_zero, Nat.zero_mul, Nat.add_zero] at c0 c1 c2 c3
  subst hoa
  obtain ⟨n, hn⟩ : ∃ n, (t :: tr).length = n := ⟨_, rfl⟩
  have hn1 : 1 ≤ n := by rw [← hn]; simp
  rw [hn] at r0 hc
  have g2 : (0 : Int) < (n : Int) := by omega
  have hA1 := fun o => (Gr.refl w).alloc o
  have hA := fun o1 o2 => (hA1 o1).alloc o2
  have hS0 := fun o1 o2 => hS.keep (hA o1 o2)
  have eR : single E s = ((E s.down.step).1, ((E s.down.step).2.need 4 ⟨#[41]⟩).up) := by
    obtain ⟨_, hk1, _⟩ := is_head hw; unfold single; rw [hk1, is_other hw (by decide), is_other hw (by decide), is_other hw (by decide), hw, hD]; rfl
  rw [eR]
  clear eR
  have hup : Hid (∀ l d, (E s.down.step).2.need 4 ⟨#[41]⟩ = .ok l d → 1 ≤ d) := hid (down_deep hD (As.trans (as_need _ _ _) (As.trans (hdp _) (as_step s.down)))).1
  obtain ⟨d1, d2, d3, d4⟩ := down_good hD
  have hk5 : s.down.headK ≠ 5 := by rw [(is_head (s := s.down) (k := 4) (c := ⟨#[40]⟩) (by rw [d4]; exact hw)).2.1]; decide
  generalize hQ : E s.down.step = Q at *
  obtain ⟨_, hk1, ht1⟩ := is_head hw
  rw [hheadK] at hk1
  have q1 : ((t.tk.kind : Int) == 2) = false := by rw [hk1]; rfl
  have q2 : ((t.tk.kind : Int) == 3) = false := by rw [hk1]; rfl
  have w1a := is_other (k' := 1) (c' := ⟨#[116, 114, 117, 101]⟩) hw (by decide)
  have w1b := is_other (k' := 1) (c' := ⟨#[102, 97, 108, 115, 101]⟩) hw (by decide)
  have w1c := is_other (k' := 1) (c' := ⟨#[110, 117, 108, 108]⟩) hw (by decide)
  have h0a : ∀ o2, ((w.alloc (.cells zeroX 26)).alloc o2).heap[w.heap.size]? = some (.cells zeroX 26 (0, 0)) := fun o2 => by
    rw [((Gr.refl _).alloc _).block _ (by simp)]; exact alloc_at _ _
  generalize hk0 : t.tk.kind = tk at *
  generalize ht0 : t.tk.text = tx at *
  generalize hm0 : t.tk.num = tn at *
  generalize t.pos = tp at *
  clear h hat hne hh hn hs hS hk0 ht0 hm0 hk1 ht1 hheadK hheadT hheadN
  go_enter Tryz.func130, Tryz.ntmps130
  go_wp2_with fail
  refine (word_no p ⟨#[116, 114, 117, 101]⟩ s _ (hS0 _ _) w1a).mono ?_
  rintro e w' ⟨rfl, rfl⟩
  go_wp2_with fail
  refine (word_no p ⟨#[102, 97, 108, 115, 101]⟩ s _ (hS0 _ _) w1b).mono ?_
  rintro e w' ⟨rfl, rfl⟩
  go_wp2_with fail
  refine (word_no p ⟨#[110, 117, 108, 108]⟩ s _ (hS0 _ _) w1c).mono ?_
  rintro e w' ⟨rfl, rfl⟩
  go_wp2_with fail
  refine (is4_any p ⟨#[40]⟩ s _ (hS0 _ _)).mono ?_
  rintro e w' ⟨rfl, rfl⟩
  rw [hw]
  go_wp2_with fail
  refine (down_any p s _ (hS0 _ _) hgood).mono ?_
  rintro e w2 ⟨rfl, hps2, hg2⟩
  rw [hD]
  have z2 := hg2.size
  simp only [World.size_alloc] at z2
  have h02 : w2.heap[w.heap.size]? = some (.cells zeroX 26 (0, 0)) := by
    rw [hg2.get (by simp; omega) (by omega)]; exact h0a _
  have hgo2 : Go1 p w w2 := (Go1.of (hA _ _)).trans hg2
  clear hg2 hS0 hA hA1 h0a
  go_wp2_with fail
  refine (step_any p s.down _ hps2 hk5 hD).mono ?_
  rintro e w3 ⟨rfl, hps3, hg3⟩
  have z3 := hg3.size
  have h03 : w3.heap[w.heap.size]? = some (.cells zeroX 26 (0, 0)) := by
    rw [hg3.get (by omega) (by omega)]; exact h02
  go_wp2_with fail
  refine (hq _ hps3).mono ?_
  rintro e w6 ⟨u, rfl, r, x, rfl, hx, hps6, hg6, hgd⟩
  unfold XR.val
  have hA6 := fun o => (Gr.refl w6).alloc o
  have hps7 := fun o => hps6.keep (hA6 o)
  have z6 := hg6.size
  go_wp2_with fail
  refine (must_any p ⟨#[41]⟩ _ _ (hps7 _)).mono ?_
  rintro e w8 ⟨rfl, hps8, hg8⟩
  go_wp2_with fail
  refine (up_any p _ _ hps8 hup.out).mono ?_
  rintro e w9 ⟨rfl, hps9, hg9⟩
  have hg89 := hg8.trans hg9
  have z8 := hg89.size
  simp only [World.size_alloc] at z8
  have hp6 := hps6.lt
  have hr8 : w9.heap[w6.heap.size]? = some (.cells r.cells 26 (0, 0)) := by
    rw [hg89.get (by simp) (by omega)]; exact alloc_at _ _
  have h08 : w9.heap[w.heap.size]? = some (.cells zeroX 26 (0, 0)) := by
    rw [hg89.get (by simp; omega) (by omega), (hA6 _).block _ (by omega), hg6.get (by omega) (by omega)]; exact h03
  have hx8 : Ex.At (fun b => w.heap.size ≤ b ∧ b ≠ w.heap.size) w9 x r := by
    refine ((hx.of (by simp) (fun b hb hl => (hA6 (.cells r.cells 26)).block b hl)).of hg89.size (fun b hb hl => hg89.get hl (by have : w3.heap.size ≤ b := hb; omega))).mono (fun b _ hb => by have : w3.heap.size ≤ b := hb; exact ⟨by omega, by omega⟩)
  have hgo8 : Go1 p w w9 := (((hgo2.trans hg3).trans hg6).block2 (hA6 _)).trans hg89
  have cE := Rg.blk_cells hr8
  simp only [XR.cells] at cE
  have FI : Hid (∀ W5, Go1 w.heap.size w9 W5 → Rx p w (Q.1, (Q.2.need 4 ⟨#[41]⟩).up) (XR.val r) W5) := hid (fun W5 h5 => giveG (R := (Q.1, (Q.2.need 4 ⟨#[41]⟩).up)) hpw rfl hx8 hps9 hgo8 (fun h => hgd (need_good (up_good h))) h5)
  have H05 := hid h08
  clear hps2 hps3 hps6 hps7 hps8 hps9 hg3 hg6 hg8 hg9 hg89 hgo2 hgo8 h02 h03 h08 hx hx8 hr8 hgd hq hA6
  go_wp2_with (guard_target =~ wpList _ _ _ (Oper.mk _ (Op.store 26 _ _) _ _ _ _ :: _) _ _; refine st_row (ty := 26) rfl rfl w.heap.size _ rfl rfl 26 _ (H05.out) (by kernel_rfl) rfl (by kernel_rfl) ?_; intro W5 hW5 gW5 zW5)
  (try change bodyPost _ _ _ _ _ _)
  have hT := Rg.blk_cells hW5
  refine bodyPost_ret (v := XR.val r) (by simp [results, Tryz.results130, go_sem, XR.val, nul, hT]; try rfl) rfl ⟨_, rfl, FI.out W5 gW5⟩
end Go.Proofs.YtbeinfhgfflneaaGreat
end
section
namespace Go.Proofs.YtbeinfhgfflneaaGreat
open Go.RowKit
set_option linter.unusedSimpArgs false
set_option linter.unusedVariables false
attribute [local go_sem] Rg.leads_value Rg.leads_skip Rg.leads_enter Rg.brings_value Rg.brings_skip Rg.brings_enter Rg.bringsG_value Rg.bringsG_enter Rg.once_normal Rg.once_exit Rg.once_ret Rg.once_panic Rg.once_goto
set_option maxHeartbeats 8000000 in
set_option maxRecDepth 100000 in
theorem single_built (E : Pa Ex) (p : Nat) (t : Lx.Tok) (tr : List Lx.Tok) (d : Nat) (s : Ps) (hs : s = .ok (t :: tr) d) (w : World) (hS : PS p w s) (hn_true : s.is 1 ⟨#[116, 114, 117, 101]⟩ = false) (hn_false : s.is 1 ⟨#[102, 97, 108, 115, 101]⟩ = false) (hn_null : s.is 1 ⟨#[110, 117, 108, 108]⟩ = false) (hk1 : t.tk.kind = 1) (hw4 : s.is 4 ⟨#[40]⟩ = false) (hbt : built t.tk.text = true) (hcall : ∀ w', PS p w' s → Calls Tryz.prog 134 #[.pointer (some ⟨p, 0, none⟩), .string (txt s.headT)] w' (Px p w' (callS E s.headT s))) : Calls Tryz.prog 130 #[.pointer (some ⟨p, 0, none⟩)] w (Px p w (single E s)) := by
  have hpw := hS.lt
  have hgood : s.good = true := by rw [hs]; rfl
  have hheadK : s.headK = t.tk.kind := by rw [hs]; rfl
  have hheadT : s.headT = t.tk.text := by rw [hs]; rfl
  have hheadN : s.headN = t.tk.num := by rw [hs]; rfl
  have hS2 := hS
  rw [hs] at hS2
  obtain ⟨hd, h⟩ := hS2
  obtain ⟨oa, cap, hh, hc, hat, hne⟩ := h.ex
  have r0 := Rg.blk_cells hh 0
  have r2 := Rg.blk_cells hh 2
  simp only [List.getElem?_toArray, List.getElem?_cons_zero, List.getElem?_cons_succ] at r0 r2
  obtain ⟨b, off, hoa, hb, c0, c1, c2, c3⟩ := t_get hat 0 (by simp)
  simp only [List.getElem_cons_zero, Nat.zero_mul, Nat.add_zero] at c0 c1 c2 c3
  subst hoa
  obtain ⟨n, hn⟩ : ∃ n, (t :: tr).length = n := ⟨_, rfl⟩
  have hn1 : 1 ≤ n := by rw [← hn]; simp
  rw [hn] at r0 hc
  have g2 : (0 : Int) < (n : Int) := by omega
  have hA1 := fun o => (Gr.refl w).alloc o
  have hA := fun o1 o2 => (hA1 o1).alloc o2
  have hS0 := fun o1 o2 => hS.keep (hA o1 o2)
  have eR : single E s = callS E s.headT s := by
    unfold single; rw [hheadK, hheadT]; simp only [hk1, hn_true, hn_false, hn_null, hw4, hbt]; rfl
  rw [eR]
  clear eR
  rw [hheadT] at hcall
  rw [hheadT]
  have q1 : ((t.tk.kind : Int) == 2) = false := by rw [hk1]; rfl
  have q2 : ((t.tk.kind : Int) == 3) = false := by rw [hk1]; rfl
  have q3 : ((t.tk.kind : Int) == 1) = true := by rw [hk1]; rfl
  have hb0 := fun w => built_any (txt t.tk.text) w
  rw [txt_list] at hb0
  obtain ⟨m, hm⟩ := h.gl
  have hsz : (txt t.tk.text).size ≤ 140737488355328 := by rw [txt_size]; have := h.tok.text t (by simp); omega
  have hnm := fun w' (h' : w'.cell? ⟨0, 0, none⟩ = some (.int .i64 m)) => name_any (txt t.tk.text) m w' hsz h'
  rw [txt_list] at hnm
  have hr2 : 0 < tr.length := (h.tok.tail (by omega)).pos
  have hlen2 : (t :: tr).length = tr.length + 1 := rfl
  have w1a := hn_true
  have w1b := hn_false
  have w1c := hn_null
  have h0a : ∀ o2, ((w.alloc (.cells zeroX 26)).alloc o2).heap[w.heap.size]? = some (.cells zeroX 26 (0, 0)) := fun o2 => by
    rw [((Gr.refl _).alloc _).block _ (by simp)]; exact alloc_at _ _
  have HGL : Hid (∀ o1 o2 w', Gr ((w.alloc o1).alloc o2) w' → w'.cell? ⟨0, 0, none⟩ = some (.int .i64 m)) := hid (fun o1 o2 w' hg => ((hA o1 o2).trans hg).keep hm)
  clear hn hr2 hlen2
  generalize hk0 : t.tk.kind = tk at *
  generalize ht0 : t.tk.text = tx at *
  generalize hm0 : t.tk.num = tn at *
  generalize t.pos = tp at *
  clear h hat hne hh hs hS hk0 ht0 hm0 hk1
  generalize hQ : callS E tx s = Q at *
  go_enter Tryz.func130, Tryz.ntmps130
  go_wp2_with fail
  refine (word_no p ⟨#[116, 114, 117, 101]⟩ s _ (hS0 _ _) w1a).mono ?_
  rintro e w' ⟨rfl, rfl⟩
  go_wp2_with fail
  refine (word_no p ⟨#[102, 97, 108, 115, 101]⟩ s _ (hS0 _ _) w1b).mono ?_
  rintro e w' ⟨rfl, rfl⟩
  go_wp2_with fail
  refine (word_no p ⟨#[110, 117, 108, 108]⟩ s _ (hS0 _ _) w1c).mono ?_
  rintro e w' ⟨rfl, rfl⟩
  go_wp2_with fail
  refine (is4_any p ⟨#[40]⟩ s _ (hS0 _ _)).mono ?_
  rintro e w' ⟨rfl, rfl⟩
  rw [hw4]
  go_wp2_with fail
  refine (hb0 _).mono ?_
  rintro e wb ⟨rfl, hgb⟩
  rw [hbt]
  have hgz : Gr _ wb := hgb
  have hz1 := hgz.size
  simp only [World.size_alloc] at hz1
  have hKz : ∀ i, wb.cell? ⟨w.heap.size + 1, i, none⟩ = (#[.int .i64 (tk : Int), .string (txt tx), .int .i64 (tn : Int), .int .i64 (tp : Int)] : Array Value)[i]? := fun i => by
    rw [hgz.cells _ _ (by simp)]
    rw [show w.heap.size + 1 = (w.alloc (.cells zeroX 26)).heap.size from (World.size_alloc w (.cells zeroX 26)).symm]
    exact Rg.blk_cells (alloc_at _ _) i
  go_wp2_with fail
  refine (hcall _ ((hS0 _ _).keep hgz)).mono ?_
  rintro e w6 ⟨u, rfl, r, x, rfl, hx, hps6, hg6, hgd⟩
  have h06 : w6.heap[w.heap.size]? = some (.cells zeroX 26 (0, 0)) := by
    rw [hg6.get (by omega) (by omega), hgz.block _ (by simp; omega)]; exact h0a _
  have hgo6 : Go1 p w w6 := ((Go1.of (hA _ _)).block2 hgz).trans hg6
  have FI : Hid (∀ W5, Go1 w.heap.size w6 W5 → Rx p w Q (XR.val r) W5) := hid (fun W5 h5 => giveG hpw rfl (hx.mono (fun b _ hb => by have : wb.heap.size ≤ b := hb; exact ⟨by omega, by omega⟩)) hps6 hgo6 hgd h5)
  have H05 := hid h06
  clear hps6 hg6 hgo6 h06 hx hgd hcall hgz hS0 hA hA1 h0a
  unfold XR.val
  go_wp2_with (guard_target =~ wpList _ _ _ (Oper.mk _ (Op.store 26 _ _) _ _ _ _ :: _) _ _; refine st_row (ty := 26) rfl rfl w.heap.size _ rfl rfl 26 _ (H05.out) (by kernel_rfl) rfl (by kernel_rfl) ?_; intro W5 hW5 gW5 zW5)
  (try change bodyPost _ _ _ _ _ _)
  have hT := Rg.blk_cells hW5
  refine bodyPost_ret (v := XR.val r) (by simp [results, Tryz.results130, go_sem, XR.val, nul, hT]; try rfl) rfl ⟨_, rfl, FI.out W5 gW5⟩
set_option maxHeartbeats 8000000 in
set_option maxRecDepth 100000 in
theorem single_next (E : Pa Ex) (p : Nat) (t : Lx.Tok) (tr : List Lx.Tok) (d : Nat) (s : Ps) (hs : s = .ok (t :: tr) d) (w : World) (hS : PS p w s) (hn_true : s.is 1 ⟨#[116, 114, 117, 101]⟩ = false) (hn_false : s.is 1 ⟨#[102, 97, 108, 115, 101]⟩ = false) (hn_null : s.is 1 ⟨#[110, 117, 108, 108]⟩ = false) (hk1 : t.tk.kind = 1) (hw4 : s.is 4 ⟨#[40]⟩ = false) (hbt : built t.tk.text = false) (hnb : nameB t.tk.text = true) (htl : s.tail.is 4 ⟨#[40]⟩ = true) (hcall : ∀ w', PS p w' s → Calls Tryz.prog 134 #[.pointer (some ⟨p, 0, none⟩), .string (txt s.headT)] w' (Px p w' (callS E s.headT s))) : Calls Tryz.prog 130 #[.pointer (some ⟨p, 0, none⟩)] w (Px p w (single E s)) := by
  have hpw := hS.lt
  have hgood : s.good = true := by rw [hs]; rfl
  have hheadK : s.headK = t.tk.kind := by rw [hs]; rfl
  have hheadT : s.headT = t.tk.text := by rw [hs]; rfl
  have hheadN : s.headN = t.tk.num := by rw [hs]; rfl
  have hS2 := hS
  rw [hs] at hS2
  obtain ⟨hd, h⟩ := hS2
  obtain ⟨oa, cap, hh, hc, hat, hne⟩ := h.ex
  have r0 := Rg.blk_cells hh 0
  have r2 := Rg.blk_cells hh 2
  simp only [List.getElem?_toArray, List.getElem?_cons_zero, List.getElem?_cons_succ] at r0 r2
  obtain ⟨b, off, hoa, hb, c0, c1, c2, c3⟩ := t_get hat 0 (by simp)
  simp only [List.getElem_cons_zero, Nat.zero_mul, Nat.add_zero] at c0 c1 c2 c3
  subst hoa
  obtain ⟨n, hn⟩ : ∃ n, (t :: tr).length = n := ⟨_, rfl⟩
  have hn1 : 1 ≤ n := by rw [← hn]; simp
  rw [hn] at r0 hc
  have g2 : (0 : Int) < (n : Int) := by omega
  have hA1 := fun o => (Gr.refl w).alloc o
  have hA := fun o1 o2 => (hA1 o1).alloc o2
  have hS0 := fun o1 o2 => hS.keep (hA o1 o2)
  have eR : single E s = callS E s.headT s := by
    unfold single; rw [hheadK, hheadT]; simp only [hk1, hn_true, hn_false, hn_null, hw4, hbt, hnb, htl]; rfl
  rw [eR]
  clear eR
  rw [hheadT] at hcall
  rw [hheadT]
  have q1 : ((t.tk.kind : Int) == 2) = false := by rw [hk1]; rfl
  have q2 : ((t.tk.kind : Int) == 3) = false := by rw [hk1]; rfl
  have q3 : ((t.tk.kind : Int) == 1) = true := by rw [hk1]; rfl
  have hb0 := fun w => built_any (txt t.tk.text) w
  rw [txt_list] at hb0
  obtain ⟨m, hm⟩ := h.gl
  have hsz : (txt t.tk.text).size ≤ 140737488355328 := by rw [txt_size]; have := h.tok.text t (by simp); omega
  have hnm := fun w' (h' : w'.cell? ⟨0, 0, none⟩ = some (.int .i64 m)) => name_any (txt t.tk.text) m w' hsz h'
  rw [txt_list] at hnm
  have hr2 : 0 < tr.length := (h.tok.tail (by omega)).pos
  have hlen2 : (t :: tr).length = tr.length + 1 := rfl
  obtain ⟨t2, tr2, htr⟩ : ∃ t2 tr2, tr = t2 :: tr2 := by cases tr with
    | nil => simp at hr2
    | cons t2 tr2 => exact ⟨t2, tr2, rfl⟩
  subst htr
  obtain ⟨b', off', hoa', _, d0, d1, _, _⟩ := t_get hat 1 (by simp)
  cases hoa'
  simp only [List.getElem_cons_succ, List.getElem_cons_zero, Nat.one_mul] at d0 d1
  have w1a := hn_true
  have w1b := hn_false
  have w1c := hn_null
  have h0a : ∀ o2, ((w.alloc (.cells zeroX 26)).alloc o2).heap[w.heap.size]? = some (.cells zeroX 26 (0, 0)) := fun o2 => by
    rw [((Gr.refl _).alloc _).block _ (by simp)]; exact alloc_at _ _
  have HGL : Hid (∀ o1 o2 w', Gr ((w.alloc o1).alloc o2) w' → w'.cell? ⟨0, 0, none⟩ = some (.int .i64 m)) := hid (fun o1 o2 w' hg => ((hA o1 o2).trans hg).keep hm)
  have n2 : (1 : Int) < (n : Int) := by rw [← hn]; simp; omega
  have n3 : 2 ≤ n := by rw [← hn]; simp
  have htl2 : (t2.tk.kind == 4 && t2.tk.text == (⟨#[40]⟩ : ByteArray).data.toList) = true := by rw [hs] at htl; exact htl
  simp only [Bool.and_eq_true] at htl2
  have k2 : ((t2.tk.kind : Int) == 4) = true := by rw [show (4 : Int) = ((4 : Nat) : Int) from rfl, ibeq']; exact htl2.1
  have x2 : ((txt t2.tk.text).toList == [40]) = true := by rw [ByteArray.toList_eq, txt_list]; exact htl2.2
  clear htl2
  generalize t2.tk.kind = tk2 at *
  generalize hx2 : txt t2.tk.text = tx2 at *
  clear hx2 hr2 hlen2 hn
  generalize hk0 : t.tk.kind = tk at *
  generalize ht0 : t.tk.text = tx at *
  generalize hm0 : t.tk.num = tn at *
  generalize t.pos = tp at *
  clear h hat hne hh hs hS hk0 ht0 hm0 hk1
  generalize hQ : callS E tx s = Q at *
  go_enter Tryz.func130, Tryz.ntmps130
  go_wp2_with fail
  refine (word_no p ⟨#[116, 114, 117, 101]⟩ s _ (hS0 _ _) w1a).mono ?_
  rintro e w' ⟨rfl, rfl⟩
  go_wp2_with fail
  refine (word_no p ⟨#[102, 97, 108, 115, 101]⟩ s _ (hS0 _ _) w1b).mono ?_
  rintro e w' ⟨rfl, rfl⟩
  go_wp2_with fail
  refine (word_no p ⟨#[110, 117, 108, 108]⟩ s _ (hS0 _ _) w1c).mono ?_
  rintro e w' ⟨rfl, rfl⟩
  go_wp2_with fail
  refine (is4_any p ⟨#[40]⟩ s _ (hS0 _ _)).mono ?_
  rintro e w' ⟨rfl, rfl⟩
  rw [hw4]
  go_wp2_with fail
  refine (hb0 _).mono ?_
  rintro e wb ⟨rfl, hgb⟩
  rw [hbt]
  have hgl := HGL.out _ _ wb hgb
  have hz0 := hgb.size
  simp only [World.size_alloc] at hz0
  have hKb : ∀ i, wb.cell? ⟨w.heap.size + 1, i, none⟩ = (#[.int .i64 (tk : Int), .string (txt tx), .int .i64 (tn : Int), .int .i64 (tp : Int)] : Array Value)[i]? := fun i => by
    rw [hgb.cells _ _ (by simp)]
    rw [show w.heap.size + 1 = (w.alloc (.cells zeroX 26)).heap.size from (World.size_alloc w (.cells zeroX 26)).symm]
    exact Rg.blk_cells (alloc_at _ _) i
  go_wp2_with fail
  refine (hnm _ hgl).mono ?_
  rintro e wn ⟨rfl, hgn⟩
  rw [hnb]
  have hgbn : Gr _ wn := Gr.trans hgb hgn
  have r0n := ((hA _ _).trans hgbn).keep r0
  have d0n := ((hA _ _).trans hgbn).keep d0
  have d1n := ((hA _ _).trans hgbn).keep d1
  have hgz : Gr _ wn := hgbn
  have hz1 := hgz.size
  simp only [World.size_alloc] at hz1
  have hKz : ∀ i, wn.cell? ⟨w.heap.size + 1, i, none⟩ = (#[.int .i64 (tk : Int), .string (txt tx), .int .i64 (tn : Int), .int .i64 (tp : Int)] : Array Value)[i]? := fun i => by
    rw [hgz.cells _ _ (by simp)]
    rw [show w.heap.size + 1 = (w.alloc (.cells zeroX 26)).heap.size from (World.size_alloc w (.cells zeroX 26)).symm]
    exact Rg.blk_cells (alloc_at _ _) i
  go_wp2_with fail
  refine (hcall _ ((hS0 _ _).keep hgz)).mono ?_
  rintro e w6 ⟨u, rfl, r, x, rfl, hx, hps6, hg6, hgd⟩
  have h06 : w6.heap[w.heap.size]? = some (.cells zeroX 26 (0, 0)) := by
    rw [hg6.get (by omega) (by omega), hgz.block _ (by simp; omega)]; exact h0a _
  have hgo6 : Go1 p w w6 := ((Go1.of (hA _ _)).block2 hgz).trans hg6
  have FI : Hid (∀ W5, Go1 w.heap.size w6 W5 → Rx p w Q (XR.val r) W5) := hid (fun W5 h5 => giveG hpw rfl (hx.mono (fun b _ hb => by have : wn.heap.size ≤ b := hb; exact ⟨by omega, by omega⟩)) hps6 hgo6 hgd h5)
  have H05 := hid h06
  clear hps6 hg6 hgo6 h06 hx hgd hcall hgz hS0 hA hA1 h0a
  unfold XR.val
  go_wp2_with (guard_target =~ wpList _ _ _ (Oper.mk _ (Op.store 26 _ _) _ _ _ _ :: _) _ _; refine st_row (ty := 26) rfl rfl w.heap.size _ rfl rfl 26 _ (H05.out) (by kernel_rfl) rfl (by kernel_rfl) ?_; intro W5 hW5 gW5 zW5)
  (try change bodyPost _ _ _ _ _ _)
  have hT := Rg.blk_cells hW5
  refine bodyPost_ret (v := XR.val r) (by simp [results, Tryz.results130, go_sem, XR.val, nul, hT]; try rfl) rfl ⟨_, rfl, FI.out W5 gW5⟩
set_option maxHeartbeats 8000000 in
set_option maxRecDepth 100000 in
theorem single_nokind (E : Pa Ex) (p : Nat) (t : Lx.Tok) (tr : List Lx.Tok) (d : Nat) (s : Ps) (hs : s = .ok (t :: tr) d) (w : World) (hS : PS p w s) (hn_true : s.is 1 ⟨#[116, 114, 117, 101]⟩ = false) (hn_false : s.is 1 ⟨#[102, 97, 108, 115, 101]⟩ = false) (hn_null : s.is 1 ⟨#[110, 117, 108, 108]⟩ = false)  (hw4 : s.is 4 ⟨#[40]⟩ = false) (hk2 : t.tk.kind ≠ 2) (hk3 : t.tk.kind ≠ 3) (hk1 : t.tk.kind ≠ 1) : Calls Tryz.prog 130 #[.pointer (some ⟨p, 0, none⟩)] w (Px p w (single E s)) := by
  have hpw := hS.lt
  have hgood : s.good = true := by rw [hs]; rfl
  have hheadK : s.headK = t.tk.kind := by rw [hs]; rfl
  have hheadT : s.headT = t.tk.text := by rw [hs]; rfl
  have hheadN : s.headN = t.tk.num := by rw [hs]; rfl
  have hS2 := hS
  rw [hs] at hS2
  obtain ⟨hd, h⟩ := hS2
  obtain ⟨oa, cap, hh, hc, hat, hne⟩ := h.ex
  have r0 := Rg.blk_cells hh 0
  have r2 := Rg.blk_cells hh 2
  simp only [List.getElem?_toArray, List.getElem?_cons_zero, List.getElem?_cons_succ] at r0 r2
  obtain ⟨b, off, hoa, hb, c0, c1, c2, c3⟩ := t_get hat 0 (by simp)
  simp only [List.getElem_cons_zero, Nat.zero_mul, Nat.add_zero] at c0 c1 c2 c3
  subst hoa
  obtain ⟨n, hn⟩ : ∃ n, (t :: tr).length = n := ⟨_, rfl⟩
  have hn1 : 1 ≤ n := by rw [← hn]; simp
  rw [hn] at r0 hc
  have g2 : (0 : Int) < (n : Int) := by omega
  have hA1 := fun o => (Gr.refl w).alloc o
  have hA := fun o1 o2 => (hA1 o1).alloc o2
  have hS0 := fun o1 o2 => hS.keep (hA o1 o2)
  have eR : single E s = nameS s := by
    have e1 : (t.tk.kind == 1) = false := by simpa using hk1
    have e2 : (t.tk.kind == 2) = false := by simpa using hk2
    have e3 : (t.tk.kind == 3) = false := by simpa using hk3
    unfold single; rw [hheadK, e1, e2, e3, hn_true, hn_false, hn_null, hw4]; rfl
  rw [eR]
  clear eR
  have q1 : ((t.tk.kind : Int) == 2) = false := by rw [show (2 : Int) = ((2 : Nat) : Int) from rfl, ibeq']; simpa using hk2
  have q2 : ((t.tk.kind : Int) == 3) = false := by rw [show (3 : Int) = ((3 : Nat) : Int) from rfl, ibeq']; simpa using hk3
  have q3 : ((t.tk.kind : Int) == 1) = false := by rw [show (1 : Int) = ((1 : Nat) : Int) from rfl, ibeq']; simpa using hk1
  have w1a := hn_true
  have w1b := hn_false
  have w1c := hn_null
  have h0a : ∀ o2, ((w.alloc (.cells zeroX 26)).alloc o2).heap[w.heap.size]? = some (.cells zeroX 26 (0, 0)) := fun o2 => by
    rw [((Gr.refl _).alloc _).block _ (by simp)]; exact alloc_at _ _
  generalize hk0 : t.tk.kind = tk at *
  generalize ht0 : t.tk.text = tx at *
  generalize hm0 : t.tk.num = tn at *
  generalize t.pos = tp at *
  clear h hat hne hh hn hs hS hk0 ht0 hm0
  go_enter Tryz.func130, Tryz.ntmps130
  go_wp2_with fail
  refine (word_no p ⟨#[116, 114, 117, 101]⟩ s _ (hS0 _ _) w1a).mono ?_
  rintro e w' ⟨rfl, rfl⟩
  go_wp2_with fail
  refine (word_no p ⟨#[102, 97, 108, 115, 101]⟩ s _ (hS0 _ _) w1b).mono ?_
  rintro e w' ⟨rfl, rfl⟩
  go_wp2_with fail
  refine (word_no p ⟨#[110, 117, 108, 108]⟩ s _ (hS0 _ _) w1c).mono ?_
  rintro e w' ⟨rfl, rfl⟩
  go_wp2_with fail
  refine (is4_any p ⟨#[40]⟩ s _ (hS0 _ _)).mono ?_
  rintro e w' ⟨rfl, rfl⟩
  rw [hw4]
  have hps0 := hS0
  have hgo0 := fun o1 o2 => Go1.of (p := p) (hA o1 o2)
  go_wp2_with fail
  refine (pname_any p s _ (hS0 _ _)).mono ?_
  rintro e w5 ⟨rfl, hps5, hg5⟩
  have z5 := hg5.size
  simp only [World.size_alloc] at z5
  have h05 : w5.heap[w.heap.size]? = some (.cells zeroX 26 (0, 0)) := by
    rw [hg5.get (by simp; omega) (by omega)]; exact h0a _
  have hgo5 : Go1 p w w5 := (Go1.of (hA _ _)).trans hg5
  obtain ⟨n1, hn1'⟩ : ∃ n1, s.name.1 = n1 := ⟨_, rfl⟩
  obtain ⟨s5, hs5⟩ : ∃ s5, s.name.2 = s5 := ⟨_, rfl⟩
  obtain ⟨R, hR0⟩ : ∃ R, nameS s = R := ⟨_, rfl⟩
  have HR : Hid (R = (if s5.is 4 ⟨#[46]⟩ then (let m := s5.step.name; (.mk { op := 2, tab := n1, name := m.1 } [], m.2)) else (.mk { op := 2, name := n1 } [], s5))) := hid (by rw [← hR0, ← hs5, ← hn1']; rfl)
  rw [hn1']
  rw [hs5] at hps5
  clear hg5 hS0 hA hA1 h0a hn1' hs5
  go_wp2_with fail
  refine (sign_any' p ⟨#[46]⟩ s5 _ hps5).mono ?_
  rintro e w6 ⟨rfl, hps6, hg6⟩
  have z6 := hg6.size
  have h06 : w6.heap[w.heap.size]? = some (.cells zeroX 26 (0, 0)) := by
    rw [hg6.get (by omega) (by omega)]; exact h05
  have hgo6 := hgo5.trans hg6
  clear hg6 hps5 hgo5 h05
  cases hB : s5.is 4 ⟨#[46]⟩ with
  | true =>
    rw [show (s5.may 4 ⟨#[46]⟩).2 = s5.step by simp [Ps.may, hB]] at hps6
    go_wp2_with fail
    refine (pname_any p s5.step _ hps6).mono ?_
    rintro e w7 ⟨rfl, hps7, hg7⟩
    have FI : Hid (∀ W5, Go1 w.heap.size w7 W5 → Rx p w (nameS s) (XR.val ⟨{ op := 2, tab := n1, name := s5.step.name.1 }, none, 0, 0⟩) W5) := hid (fun W5 h5 => by
      rw [hR0, HR.out, hB]
      exact giveG (R := (.mk { op := 2, tab := n1, name := s5.step.name.1 } [], s5.step.name.2)) hpw rfl (formZ (S := fun b => w.heap.size ≤ b ∧ b ≠ w.heap.size)) hps7 (hgo6.trans hg7) (fun _ => rfl) h5)
    have H05 : Hid (w7.heap[w.heap.size]? = some (.cells zeroX 26 (0, 0))) := hid (by rw [hg7.get (by omega) (by omega)]; exact h06)
    clear hps6 hps7 hg7 hgo6 h06 HR hR0
    generalize s5.step.name.1 = n2 at *
    go_wp2_with (guard_target =~ wpList _ _ _ (Oper.mk _ (Op.store 26 _ _) _ _ _ _ :: _) _ _; refine st_row (ty := 26) rfl rfl w.heap.size _ rfl rfl 26 _ (H05.out) (by kernel_rfl) rfl (by kernel_rfl) ?_; intro W5 hW5 gW5 zW5)
    (try change bodyPost _ _ _ _ _ _)
    have hT := Rg.blk_cells hW5
    refine bodyPost_ret (v := XR.val ⟨{ op := 2, tab := n1, name := n2 }, none, 0, 0⟩) (by simp [results, Tryz.results130, go_sem, XR.val, nul, hT]; try rfl) rfl ⟨_, rfl, FI.out W5 gW5⟩
  | false =>
    rw [show (s5.may 4 ⟨#[46]⟩).2 = s5 by simp [Ps.may, hB]] at hps6
    have FI : Hid (∀ W5, Go1 w.heap.size w6 W5 → Rx p w (nameS s) (XR.val ⟨{ op := 2, name := n1 }, none, 0, 0⟩) W5) := hid (fun W5 h5 => by
      rw [hR0, HR.out, hB]
      exact giveG (R := (.mk { op := 2, name := n1 } [], s5)) hpw rfl (formZ (S := fun b => w.heap.size ≤ b ∧ b ≠ w.heap.size)) hps6 hgo6 (fun _ => rfl) h5)
    have H05 := hid h06
    clear hps6 hgo6 h06 HR hR0
    go_wp2_with (guard_target =~ wpList _ _ _ (Oper.mk _ (Op.store 26 _ _) _ _ _ _ :: _) _ _; refine st_row (ty := 26) rfl rfl w.heap.size _ rfl rfl 26 _ (H05.out) (by kernel_rfl) rfl (by kernel_rfl) ?_; intro W5 hW5 gW5 zW5)
    (try change bodyPost _ _ _ _ _ _)
    have hT := Rg.blk_cells hW5
    refine bodyPost_ret (v := XR.val ⟨{ op := 2, name := n1 }, none, 0, 0⟩) (by simp [results, Tryz.results130, go_sem, XR.val, nul, hT]; try rfl) rfl ⟨_, rfl, FI.out W5 gW5⟩
set_option maxHeartbeats 8000000 in
set_option maxRecDepth 100000 in
theorem single_noname (E : Pa Ex) (p : Nat) (t : Lx.Tok) (tr : List Lx.Tok) (d : Nat) (s : Ps) (hs : s = .ok (t :: tr) d) (w : World) (hS : PS p w s) (hn_true : s.is 1 ⟨#[116, 114, 117, 101]⟩ = false) (hn_false : s.is 1 ⟨#[102, 97, 108, 115, 101]⟩ = false) (hn_null : s.is 1 ⟨#[110, 117, 108, 108]⟩ = false)  (hw4 : s.is 4 ⟨#[40]⟩ = false) (hk1 : t.tk.kind = 1) (hbt : built t.tk.text = false) (hnb : nameB t.tk.text = false) : Calls Tryz.prog 130 #[.pointer (some ⟨p, 0, none⟩)] w (Px p w (single E s)) := by
  have hpw := hS.lt
  have hgood : s.good = true := by rw [hs]; rfl
  have hheadK : s.headK = t.tk.kind := by rw [hs]; rfl
  have hheadT : s.headT = t.tk.text := by rw [hs]; rfl
  have hheadN : s.headN = t.tk.num := by rw [hs]; rfl
  have hS2 := hS
  rw [hs] at hS2
  obtain ⟨hd, h⟩ := hS2
  obtain ⟨oa, cap, hh, hc, hat, hne⟩ := h.ex
  have r0 := Rg.blk_cells hh 0
  have r2 := Rg.blk_cells hh 2
  simp only [List.getElem?_toArray, List.getElem?_cons_zero, List.getElem?_cons_succ] at r0 r2
  obtain ⟨b, off, hoa, hb, c0, c1, c2, c3⟩ := t_get hat 0 (by simp)
  simp only [List.getElem_cons_zero, Nat.zero_mul, Nat.add_zero] at c0 c1 c2 c3
  subst hoa
  obtain ⟨n, hn⟩ : ∃ n, (t :: tr).length = n := ⟨_, rfl⟩
  have hn1 : 1 ≤ n := by rw [← hn]; simp
  rw [hn] at r0 hc
  have g2 : (0 : Int) < (n : Int) := by omega
  have hA1 := fun o => (Gr.refl w).alloc o
  have hA := fun o1 o2 => (hA1 o1).alloc o2
  have hS0 := fun o1 o2 => hS.keep (hA o1 o2)
  have eR : single E s = nameS s := by
    unfold single; rw [hheadK, hheadT]; simp only [hk1, hn_true, hn_false, hn_null, hw4, hbt, hnb]; rfl
  rw [eR]
  clear eR
  have q1 : ((t.tk.kind : Int) == 2) = false := by rw [hk1]; rfl
  have q2 : ((t.tk.kind : Int) == 3) = false := by rw [hk1]; rfl
  have q3 : ((t.tk.kind : Int) == 1) = true := by rw [hk1]; rfl
  have hb0 := fun w => built_any (txt t.tk.text) w
  rw [txt_list] at hb0
  obtain ⟨m, hm⟩ := h.gl
  have hsz : (txt t.tk.text).size ≤ 140737488355328 := by rw [txt_size]; have := h.tok.text t (by simp); omega
  have hnm := fun w' (h' : w'.cell? ⟨0, 0, none⟩ = some (.int .i64 m)) => name_any (txt t.tk.text) m w' hsz h'
  rw [txt_list] at hnm
  have hr2 : 0 < tr.length := (h.tok.tail (by omega)).pos
  have hlen2 : (t :: tr).length = tr.length + 1 := rfl
  have w1a := hn_true
  have w1b := hn_false
  have w1c := hn_null
  have h0a : ∀ o2, ((w.alloc (.cells zeroX 26)).alloc o2).heap[w.heap.size]? = some (.cells zeroX 26 (0, 0)) := fun o2 => by
    rw [((Gr.refl _).alloc _).block _ (by simp)]; exact alloc_at _ _
  have HGL : Hid (∀ o1 o2 w', Gr ((w.alloc o1).alloc o2) w' → w'.cell? ⟨0, 0, none⟩ = some (.int .i64 m)) := hid (fun o1 o2 w' hg => ((hA o1 o2).trans hg).keep hm)
  clear hn hr2 hlen2
  generalize hk0 : t.tk.kind = tk at *
  generalize ht0 : t.tk.text = tx at *
  generalize hm0 : t.tk.num = tn at *
  generalize t.pos = tp at *
  clear h hat hne hh hs hS hk0 ht0 hm0 hk1
  go_enter Tryz.func130, Tryz.ntmps130
  go_wp2_with fail
  refine (word_no p ⟨#[116, 114, 117, 101]⟩ s _ (hS0 _ _) w1a).mono ?_
  rintro e w' ⟨rfl, rfl⟩
  go_wp2_with fail
  refine (word_no p ⟨#[102, 97, 108, 115, 101]⟩ s _ (hS0 _ _) w1b).mono ?_
  rintro e w' ⟨rfl, rfl⟩
  go_wp2_with fail
  refine (word_no p ⟨#[110, 117, 108, 108]⟩ s _ (hS0 _ _) w1c).mono ?_
  rintro e w' ⟨rfl, rfl⟩
  go_wp2_with fail
  refine (is4_any p ⟨#[40]⟩ s _ (hS0 _ _)).mono ?_
  rintro e w' ⟨rfl, rfl⟩
  rw [hw4]
  go_wp2_with fail
  refine (hb0 _).mono ?_
  rintro e wb ⟨rfl, hgb⟩
  rw [hbt]
  have hgl := HGL.out _ _ wb hgb
  have hz0 := hgb.size
  simp only [World.size_alloc] at hz0
  have hKb : ∀ i, wb.cell? ⟨w.heap.size + 1, i, none⟩ = (#[.int .i64 (tk : Int), .string (txt tx), .int .i64 (tn : Int), .int .i64 (tp : Int)] : Array Value)[i]? := fun i => by
    rw [hgb.cells _ _ (by simp)]
    rw [show w.heap.size + 1 = (w.alloc (.cells zeroX 26)).heap.size from (World.size_alloc w (.cells zeroX 26)).symm]
    exact Rg.blk_cells (alloc_at _ _) i
  go_wp2_with fail
  refine (hnm _ hgl).mono ?_
  rintro e wn ⟨rfl, hgn⟩
  rw [hnb]
  have hgbn : Gr _ wn := Gr.trans hgb hgn
  have hgz : Gr _ wn := hgbn
  have hz1 := hgz.size
  simp only [World.size_alloc] at hz1
  go_wp2_with fail
  refine (pname_any p s _ ((hS0 _ _).keep hgz)).mono ?_
  rintro e w5 ⟨rfl, hps5, hg5⟩
  have z5 := hg5.size
  have h05 : w5.heap[w.heap.size]? = some (.cells zeroX 26 (0, 0)) := by
    rw [hg5.get (by omega) (by omega), hgz.block _ (by simp; omega)]; exact h0a _
  have hgo5 : Go1 p w w5 := ((Go1.of (hA _ _)).block2 hgz).trans hg5
  obtain ⟨n1, hn1'⟩ : ∃ n1, s.name.1 = n1 := ⟨_, rfl⟩
  obtain ⟨s5, hs5⟩ : ∃ s5, s.name.2 = s5 := ⟨_, rfl⟩
  obtain ⟨R, hR0⟩ : ∃ R, nameS s = R := ⟨_, rfl⟩
  have HR : Hid (R = (if s5.is 4 ⟨#[46]⟩ then (let m := s5.step.name; (.mk { op := 2, tab := n1, name := m.1 } [], m.2)) else (.mk { op := 2, name := n1 } [], s5))) := hid (by rw [← hR0, ← hs5, ← hn1']; rfl)
  rw [hn1']
  rw [hs5] at hps5
  clear hg5 hS0 hA hA1 h0a hn1' hs5 hgz
  go_wp2_with fail
  refine (sign_any' p ⟨#[46]⟩ s5 _ hps5).mono ?_
  rintro e w6 ⟨rfl, hps6, hg6⟩
  have z6 := hg6.size
  have h06 : w6.heap[w.heap.size]? = some (.cells zeroX 26 (0, 0)) := by
    rw [hg6.get (by omega) (by omega)]; exact h05
  have hgo6 := hgo5.trans hg6
  clear hg6 hps5 hgo5 h05
  cases hB : s5.is 4 ⟨#[46]⟩ with
  | true =>
    rw [show (s5.may 4 ⟨#[46]⟩).2 = s5.step by simp [Ps.may, hB]] at hps6
    go_wp2_with fail
    refine (pname_any p s5.step _ hps6).mono ?_
    rintro e w7 ⟨rfl, hps7, hg7⟩
    have FI : Hid (∀ W5, Go1 w.heap.size w7 W5 → Rx p w (nameS s) (XR.val ⟨{ op := 2, tab := n1, name := s5.step.name.1 }, none, 0, 0⟩) W5) := hid (fun W5 h5 => by
      rw [hR0, HR.out, hB]
      exact giveG (R := (.mk { op := 2, tab := n1, name := s5.step.name.1 } [], s5.step.name.2)) hpw rfl (formZ (S := fun b => w.heap.size ≤ b ∧ b ≠ w.heap.size)) hps7 (hgo6.trans hg7) (fun _ => rfl) h5)
    have H05 : Hid (w7.heap[w.heap.size]? = some (.cells zeroX 26 (0, 0))) := hid (by rw [hg7.get (by omega) (by omega)]; exact h06)
    clear hps6 hps7 hg7 hgo6 h06 HR hR0
    generalize s5.step.name.1 = n2 at *
    go_wp2_with (guard_target =~ wpList _ _ _ (Oper.mk _ (Op.store 26 _ _) _ _ _ _ :: _) _ _; refine st_row (ty := 26) rfl rfl w.heap.size _ rfl rfl 26 _ (H05.out) (by kernel_rfl) rfl (by kernel_rfl) ?_; intro W5 hW5 gW5 zW5)
    (try change bodyPost _ _ _ _ _ _)
    have hT := Rg.blk_cells hW5
    refine bodyPost_ret (v := XR.val ⟨{ op := 2, tab := n1, name := n2 }, none, 0, 0⟩) (by simp [results, Tryz.results130, go_sem, XR.val, nul, hT]; try rfl) rfl ⟨_, rfl, FI.out W5 gW5⟩
  | false =>
    rw [show (s5.may 4 ⟨#[46]⟩).2 = s5 by simp [Ps.may, hB]] at hps6
    have FI : Hid (∀ W5, Go1 w.heap.size w6 W5 → Rx p w (nameS s) (XR.val ⟨{ op := 2, name := n1 }, none, 0, 0⟩) W5) := hid (fun W5 h5 => by
      rw [hR0, HR.out, hB]
      exact giveG (R := (.mk { op := 2, name := n1 } [], s5)) hpw rfl (formZ (S := fun b => w.heap.size ≤ b ∧ b ≠ w.heap.size)) hps6 hgo6 (fun _ => rfl) h5)
    have H05 := hid h06
    clear hps6 hgo6 h06 HR hR0
    go_wp2_with (guard_target =~ wpList _ _ _ (Oper.mk _ (Op.store 26 _ _) _ _ _ _ :: _) _ _; refine st_row (ty := 26) rfl rfl w.heap.size _ rfl rfl 26 _ (H05.out) (by kernel_rfl) rfl (by kernel_rfl) ?_; intro W5 hW5 gW5 zW5)
    (try change bodyPost _ _ _ _ _ _)
    have hT := Rg.blk_cells hW5
    refine bodyPost_ret (v := XR.val ⟨{ op := 2, name := n1 }, none, 0, 0⟩) (by simp [results, Tryz.results130, go_sem, XR.val, nul, hT]; try rfl) rfl ⟨_, rfl, FI.out W5 gW5⟩
set_option maxHeartbeats 8000000 in
set_option maxRecDepth 100000 in
theorem single_nextk (E : Pa Ex) (p : Nat) (t : Lx.Tok) (tr : List Lx.Tok) (d : Nat) (s : Ps) (hs : s = .ok (t :: tr) d) (w : World) (hS : PS p w s) (hn_true : s.is 1 ⟨#[116, 114, 117, 101]⟩ = false) (hn_false : s.is 1 ⟨#[102, 97, 108, 115, 101]⟩ = false) (hn_null : s.is 1 ⟨#[110, 117, 108, 108]⟩ = false)  (hw4 : s.is 4 ⟨#[40]⟩ = false) (hk1 : t.tk.kind = 1) (hbt : built t.tk.text = false) (hnb : nameB t.tk.text = true) (htl : s.tail.is 4 ⟨#[40]⟩ = false) (hk4 : (s.tail.headK == 4) = false) : Calls Tryz.prog 130 #[.pointer (some ⟨p, 0, none⟩)] w (Px p w (single E s)) := by
  have hpw := hS.lt
  have hgood : s.good = true := by rw [hs]; rfl
  have hheadK : s.headK = t.tk.kind := by rw [hs]; rfl
  have hheadT : s.headT = t.tk.text := by rw [hs]; rfl
  have hheadN : s.headN = t.tk.num := by rw [hs]; rfl
  have hS2 := hS
  rw [hs] at hS2
  obtain ⟨hd, h⟩ := hS2
  obtain ⟨oa, cap, hh, hc, hat, hne⟩ := h.ex
  have r0 := Rg.blk_cells hh 0
  have r2 := Rg.blk_cells hh 2
  simp only [List.getElem?_toArray, List.getElem?_cons_zero, List.getElem?_cons_succ] at r0 r2
  obtain ⟨b, off, hoa, hb, c0, c1, c2, c3⟩ := t_get hat 0 (by simp)
  simp only [List.getElem_cons_zero, Nat.zero_mul, Nat.add_zero] at c0 c1 c2 c3
  subst hoa
  obtain ⟨n, hn⟩ : ∃ n, (t :: tr).length = n := ⟨_, rfl⟩
  have hn1 : 1 ≤ n := by rw [← hn]; simp
  rw [hn] at r0 hc
  have g2 : (0 : Int) < (n : Int) := by omega
  have hA1 := fun o => (Gr.refl w).alloc o
  have hA := fun o1 o2 => (hA1 o1).alloc o2
  have hS0 := fun o1 o2 => hS.keep (hA o1 o2)
  have eR : single E s = nameS s := by
    unfold single; rw [hheadK, hheadT]; simp only [hk1, hn_true, hn_false, hn_null, hw4, hbt, hnb, htl]; rfl
  rw [eR]
  clear eR
  have q1 : ((t.tk.kind : Int) == 2) = false := by rw [hk1]; rfl
  have q2 : ((t.tk.kind : Int) == 3) = false := by rw [hk1]; rfl
  have q3 : ((t.tk.kind : Int) == 1) = true := by rw [hk1]; rfl
  have hb0 := fun w => built_any (txt t.tk.text) w
  rw [txt_list] at hb0
  obtain ⟨m, hm⟩ := h.gl
  have hsz : (txt t.tk.text).size ≤ 140737488355328 := by rw [txt_size]; have := h.tok.text t (by simp); omega
  have hnm := fun w' (h' : w'.cell? ⟨0, 0, none⟩ = some (.int .i64 m)) => name_any (txt t.tk.text) m w' hsz h'
  rw [txt_list] at hnm
  have hr2 : 0 < tr.length := (h.tok.tail (by omega)).pos
  have hlen2 : (t :: tr).length = tr.length + 1 := rfl
  obtain ⟨t2, tr2, htr⟩ : ∃ t2 tr2, tr = t2 :: tr2 := by cases tr with
    | nil => simp at hr2
    | cons t2 tr2 => exact ⟨t2, tr2, rfl⟩
  subst htr
  obtain ⟨b', off', hoa', _, d0, d1, _, _⟩ := t_get hat 1 (by simp)
  cases hoa'
  simp only [List.getElem_cons_succ, List.getElem_cons_zero, Nat.one_mul] at d0 d1
  have w1a := hn_true
  have w1b := hn_false
  have w1c := hn_null
  have h0a : ∀ o2, ((w.alloc (.cells zeroX 26)).alloc o2).heap[w.heap.size]? = some (.cells zeroX 26 (0, 0)) := fun o2 => by
    rw [((Gr.refl _).alloc _).block _ (by simp)]; exact alloc_at _ _
  have HGL : Hid (∀ o1 o2 w', Gr ((w.alloc o1).alloc o2) w' → w'.cell? ⟨0, 0, none⟩ = some (.int .i64 m)) := hid (fun o1 o2 w' hg => ((hA o1 o2).trans hg).keep hm)
  have n2 : (1 : Int) < (n : Int) := by rw [← hn]; simp; omega
  have n3 : 2 ≤ n := by rw [← hn]; simp
  have k2 : ((t2.tk.kind : Int) == 4) = false := by rw [show (4 : Int) = ((4 : Nat) : Int) from rfl, ibeq']; rw [hs] at hk4; exact hk4
  generalize t2.tk.kind = tk2 at *
  generalize hx2 : txt t2.tk.text = tx2 at *
  clear hx2 hr2 hlen2 hn
  generalize hk0 : t.tk.kind = tk at *
  generalize ht0 : t.tk.text = tx at *
  generalize hm0 : t.tk.num = tn at *
  generalize t.pos = tp at *
  clear h hat hne hh hs hS hk0 ht0 hm0 hk1
  go_enter Tryz.func130, Tryz.ntmps130
  go_wp2_with fail
  refine (word_no p ⟨#[116, 114, 117, 101]⟩ s _ (hS0 _ _) w1a).mono ?_
  rintro e w' ⟨rfl, rfl⟩
  go_wp2_with fail
  refine (word_no p ⟨#[102, 97, 108, 115, 101]⟩ s _ (hS0 _ _) w1b).mono ?_
  rintro e w' ⟨rfl, rfl⟩
  go_wp2_with fail
  refine (word_no p ⟨#[110, 117, 108, 108]⟩ s _ (hS0 _ _) w1c).mono ?_
  rintro e w' ⟨rfl, rfl⟩
  go_wp2_with fail
  refine (is4_any p ⟨#[40]⟩ s _ (hS0 _ _)).mono ?_
  rintro e w' ⟨rfl, rfl⟩
  rw [hw4]
  go_wp2_with fail
  refine (hb0 _).mono ?_
  rintro e wb ⟨rfl, hgb⟩
  rw [hbt]
  have hgl := HGL.out _ _ wb hgb
  have hz0 := hgb.size
  simp only [World.size_alloc] at hz0
  have hKb : ∀ i, wb.cell? ⟨w.heap.size + 1, i, none⟩ = (#[.int .i64 (tk : Int), .string (txt tx), .int .i64 (tn : Int), .int .i64 (tp : Int)] : Array Value)[i]? := fun i => by
    rw [hgb.cells _ _ (by simp)]
    rw [show w.heap.size + 1 = (w.alloc (.cells zeroX 26)).heap.size from (World.size_alloc w (.cells zeroX 26)).symm]
    exact Rg.blk_cells (alloc_at _ _) i
  go_wp2_with fail
  refine (hnm _ hgl).mono ?_
  rintro e wn ⟨rfl, hgn⟩
  rw [hnb]
  have hgbn : Gr _ wn := Gr.trans hgb hgn
  have r0n := ((hA _ _).trans hgbn).keep r0
  have d0n := ((hA _ _).trans hgbn).keep d0
  have d1n := ((hA _ _).trans hgbn).keep d1
  have hgz : Gr _ wn := hgbn
  have hz1 := hgz.size
  simp only [World.size_alloc] at hz1
  go_wp2_with fail
  refine (pname_any p s _ ((hS0 _ _).keep hgz)).mono ?_
  rintro e w5 ⟨rfl, hps5, hg5⟩
  have z5 := hg5.size
  have h05 : w5.heap[w.heap.size]? = some (.cells zeroX 26 (0, 0)) := by
    rw [hg5.get (by omega) (by omega), hgz.block _ (by simp; omega)]; exact h0a _
  have hgo5 : Go1 p w w5 := ((Go1.of (hA _ _)).block2 hgz).trans hg5
  obtain ⟨n1, hn1'⟩ : ∃ n1, s.name.1 = n1 := ⟨_, rfl⟩
  obtain ⟨s5, hs5⟩ : ∃ s5, s.name.2 = s5 := ⟨_, rfl⟩
  obtain ⟨R, hR0⟩ : ∃ R, nameS s = R := ⟨_, rfl⟩
  have HR : Hid (R = (if s5.is 4 ⟨#[46]⟩ then (let m := s5.step.name; (.mk { op := 2, tab := n1, name := m.1 } [], m.2)) else (.mk { op := 2, name := n1 } [], s5))) := hid (by rw [← hR0, ← hs5, ← hn1']; rfl)
  rw [hn1']
  rw [hs5] at hps5
  clear hg5 hS0 hA hA1 h0a hn1' hs5 hgz
  go_wp2_with fail
  refine (sign_any' p ⟨#[46]⟩ s5 _ hps5).mono ?_
  rintro e w6 ⟨rfl, hps6, hg6⟩
  have z6 := hg6.size
  have h06 : w6.heap[w.heap.size]? = some (.cells zeroX 26 (0, 0)) := by
    rw [hg6.get (by omega) (by omega)]; exact h05
  have hgo6 := hgo5.trans hg6
  clear hg6 hps5 hgo5 h05
  cases hB : s5.is 4 ⟨#[46]⟩ with
  | true =>
    rw [show (s5.may 4 ⟨#[46]⟩).2 = s5.step by simp [Ps.may, hB]] at hps6
    go_wp2_with fail
    refine (pname_any p s5.step _ hps6).mono ?_
    rintro e w7 ⟨rfl, hps7, hg7⟩
    have FI : Hid (∀ W5, Go1 w.heap.size w7 W5 → Rx p w (nameS s) (XR.val ⟨{ op := 2, tab := n1, name := s5.step.name.1 }, none, 0, 0⟩) W5) := hid (fun W5 h5 => by
      rw [hR0, HR.out, hB]
      exact giveG (R := (.mk { op := 2, tab := n1, name := s5.step.name.1 } [], s5.step.name.2)) hpw rfl (formZ (S := fun b => w.heap.size ≤ b ∧ b ≠ w.heap.size)) hps7 (hgo6.trans hg7) (fun _ => rfl) h5)
    have H05 : Hid (w7.heap[w.heap.size]? = some (.cells zeroX 26 (0, 0))) := hid (by rw [hg7.get (by omega) (by omega)]; exact h06)
    clear hps6 hps7 hg7 hgo6 h06 HR hR0
    generalize s5.step.name.1 = n2 at *
    go_wp2_with (guard_target =~ wpList _ _ _ (Oper.mk _ (Op.store 26 _ _) _ _ _ _ :: _) _ _; refine st_row (ty := 26) rfl rfl w.heap.size _ rfl rfl 26 _ (H05.out) (by kernel_rfl) rfl (by kernel_rfl) ?_; intro W5 hW5 gW5 zW5)
    (try change bodyPost _ _ _ _ _ _)
    have hT := Rg.blk_cells hW5
    refine bodyPost_ret (v := XR.val ⟨{ op := 2, tab := n1, name := n2 }, none, 0, 0⟩) (by simp [results, Tryz.results130, go_sem, XR.val, nul, hT]; try rfl) rfl ⟨_, rfl, FI.out W5 gW5⟩
  | false =>
    rw [show (s5.may 4 ⟨#[46]⟩).2 = s5 by simp [Ps.may, hB]] at hps6
    have FI : Hid (∀ W5, Go1 w.heap.size w6 W5 → Rx p w (nameS s) (XR.val ⟨{ op := 2, name := n1 }, none, 0, 0⟩) W5) := hid (fun W5 h5 => by
      rw [hR0, HR.out, hB]
      exact giveG (R := (.mk { op := 2, name := n1 } [], s5)) hpw rfl (formZ (S := fun b => w.heap.size ≤ b ∧ b ≠ w.heap.size)) hps6 hgo6 (fun _ => rfl) h5)
    have H05 := hid h06
    clear hps6 hgo6 h06 HR hR0
    go_wp2_with (guard_target =~ wpList _ _ _ (Oper.mk _ (Op.store 26 _ _) _ _ _ _ :: _) _ _; refine st_row (ty := 26) rfl rfl w.heap.size _ rfl rfl 26 _ (H05.out) (by kernel_rfl) rfl (by kernel_rfl) ?_; intro W5 hW5 gW5 zW5)
    (try change bodyPost _ _ _ _ _ _)
    have hT := Rg.blk_cells hW5
    refine bodyPost_ret (v := XR.val ⟨{ op := 2, name := n1 }, none, 0, 0⟩) (by simp [results, Tryz.results130, go_sem, XR.val, nul, hT]; try rfl) rfl ⟨_, rfl, FI.out W5 gW5⟩
set_option maxHeartbeats 8000000 in
set_option maxRecDepth 100000 in
theorem single_nextt (E : Pa Ex) (p : Nat) (t : Lx.Tok) (tr : List Lx.Tok) (d : Nat) (s : Ps) (hs : s = .ok (t :: tr) d) (w : World) (hS : PS p w s) (hn_true : s.is 1 ⟨#[116, 114, 117, 101]⟩ = false) (hn_false : s.is 1 ⟨#[102, 97, 108, 115, 101]⟩ = false) (hn_null : s.is 1 ⟨#[110, 117, 108, 108]⟩ = false)  (hw4 : s.is 4 ⟨#[40]⟩ = false) (hk1 : t.tk.kind = 1) (hbt : built t.tk.text = false) (hnb : nameB t.tk.text = true) (htl : s.tail.is 4 ⟨#[40]⟩ = false) (hk4 : (s.tail.headK == 4) = true) (ht4 : (s.tail.headT == (⟨#[40]⟩ : ByteArray).data.toList) = false) : Calls Tryz.prog 130 #[.pointer (some ⟨p, 0, none⟩)] w (Px p w (single E s)) := by
  have hpw := hS.lt
  have hgood : s.good = true := by rw [hs]; rfl
  have hheadK : s.headK = t.tk.kind := by rw [hs]; rfl
  have hheadT : s.headT = t.tk.text := by rw [hs]; rfl
  have hheadN : s.headN = t.tk.num := by rw [hs]; rfl
  have hS2 := hS
  rw [hs] at hS2
  obtain ⟨hd, h⟩ := hS2
  obtain ⟨oa, cap, hh, hc, hat, hne⟩ := h.ex
  have r0 := Rg.blk_cells hh 0
  have r2 := Rg.blk_cells hh 2
  simp only [List.getElem?_toArray, List.getElem?_cons_zero, List.getElem?_cons_succ] at r0 r2
  obtain ⟨b, off, hoa, hb, c0, c1, c2, c3⟩ := t_get hat 0 (by simp)
  simp only [List.getElem_cons_zero, Nat.zero_mul, Nat.add_zero] at c0 c1 c2 c3
  subst hoa
  obtain ⟨n, hn⟩ : ∃ n, (t :: tr).length = n := ⟨_, rfl⟩
  have hn1 : 1 ≤ n := by rw [← hn]; simp
  rw [hn] at r0 hc
  have g2 : (0 : Int) < (n : Int) := by omega
  have hA1 := fun o => (Gr.refl w).alloc o
  have hA := fun o1 o2 => (hA1 o1).alloc o2
  have hS0 := fun o1 o2 => hS.keep (hA o1 o2)
  have eR : single E s = nameS s := by
    unfold single; rw [hheadK, hheadT]; simp only [hk1, hn_true, hn_false, hn_null, hw4, hbt, hnb, htl]; rfl
  rw [eR]
  clear eR
  have q1 : ((t.tk.kind : Int) == 2) = false := by rw [hk1]; rfl
  have q2 : ((t.tk.kind : Int) == 3) = false := by rw [hk1]; rfl
  have q3 : ((t.tk.kind : Int) == 1) = true := by rw [hk1]; rfl
  have hb0 := fun w => built_any (txt t.tk.text) w
  rw [txt_list] at hb0
  obtain ⟨m, hm⟩ := h.gl
  have hsz : (txt t.tk.text).size ≤ 140737488355328 := by rw [txt_size]; have := h.tok.text t (by simp); omega
  have hnm := fun w' (h' : w'.cell? ⟨0, 0, none⟩ = some (.int .i64 m)) => name_any (txt t.tk.text) m w' hsz h'
  rw [txt_list] at hnm
  have hr2 : 0 < tr.length := (h.tok.tail (by omega)).pos
  have hlen2 : (t :: tr).length = tr.length + 1 := rfl
  obtain ⟨t2, tr2, htr⟩ : ∃ t2 tr2, tr = t2 :: tr2 := by cases tr with
    | nil => simp at hr2
    | cons t2 tr2 => exact ⟨t2, tr2, rfl⟩
  subst htr
  obtain ⟨b', off', hoa', _, d0, d1, _, _⟩ := t_get hat 1 (by simp)
  cases hoa'
  simp only [List.getElem_cons_succ, List.getElem_cons_zero, Nat.one_mul] at d0 d1
  have w1a := hn_true
  have w1b := hn_false
  have w1c := hn_null
  have h0a : ∀ o2, ((w.alloc (.cells zeroX 26)).alloc o2).heap[w.heap.size]? = some (.cells zeroX 26 (0, 0)) := fun o2 => by
    rw [((Gr.refl _).alloc _).block _ (by simp)]; exact alloc_at _ _
  have HGL : Hid (∀ o1 o2 w', Gr ((w.alloc o1).alloc o2) w' → w'.cell? ⟨0, 0, none⟩ = some (.int .i64 m)) := hid (fun o1 o2 w' hg => ((hA o1 o2).trans hg).keep hm)
  have n2 : (1 : Int) < (n : Int) := by rw [← hn]; simp; omega
  have n3 : 2 ≤ n := by rw [← hn]; simp
  have k2 : ((t2.tk.kind : Int) == 4) = true := by rw [show (4 : Int) = ((4 : Nat) : Int) from rfl, ibeq']; rw [hs] at hk4; exact hk4
  have x2 : ((txt t2.tk.text).toList == [40]) = false := by rw [ByteArray.toList_eq, txt_list]; rw [hs] at ht4; exact ht4
  generalize t2.tk.kind = tk2 at *
  generalize hx2 : txt t2.tk.text = tx2 at *
  clear hx2 hr2 hlen2 hn
  generalize hk0 : t.tk.kind = tk at *
  generalize ht0 : t.tk.text = tx at *
  generalize hm0 : t.tk.num = tn at *
  generalize t.pos = tp at *
  clear h hat hne hh hs hS hk0 ht0 hm0 hk1
  go_enter Tryz.func130, Tryz.ntmps130
  go_wp2_with fail
  refine (word_no p ⟨#[116, 114, 117, 101]⟩ s _ (hS0 _ _) w1a).mono ?_
  rintro e w' ⟨rfl, rfl⟩
  go_wp2_with fail
  refine (word_no p ⟨#[102, 97, 108, 115, 101]⟩ s _ (hS0 _ _) w1b).mono ?_
  rintro e w' ⟨rfl, rfl⟩
  go_wp2_with fail
  refine (word_no p ⟨#[110, 117, 108, 108]⟩ s _ (hS0 _ _) w1c).mono ?_
  rintro e w' ⟨rfl, rfl⟩
  go_wp2_with fail
  refine (is4_any p ⟨#[40]⟩ s _ (hS0 _ _)).mono ?_
  rintro e w' ⟨rfl, rfl⟩
  rw [hw4]
  go_wp2_with fail
  refine (hb0 _).mono ?_
  rintro e wb ⟨rfl, hgb⟩
  rw [hbt]
  have hgl := HGL.out _ _ wb hgb
  have hz0 := hgb.size
  simp only [World.size_alloc] at hz0
  have hKb : ∀ i, wb.cell? ⟨w.heap.size + 1, i, none⟩ = (#[.int .i64 (tk : Int), .string (txt tx), .int .i64 (tn : Int), .int .i64 (tp : Int)] : Array Value)[i]? := fun i => by
    rw [hgb.cells _ _ (by simp)]
    rw [show w.heap.size + 1 = (w.alloc (.cells zeroX 26)).heap.size from (World.size_alloc w (.cells zeroX 26)).symm]
    exact Rg.blk_cells (alloc_at _ _) i
  go_wp2_with fail
  refine (hnm _ hgl).mono ?_
  rintro e wn ⟨rfl, hgn⟩
  rw [hnb]
  have hgbn : Gr _ wn := Gr.trans hgb hgn
  have r0n := ((hA _ _).trans hgbn).keep r0
  have d0n := ((hA _ _).trans hgbn).keep d0
  have d1n := ((hA _ _).trans hgbn).keep d1
  have hgz : Gr _ wn := hgbn
  have hz1 := hgz.size
  simp only [World.size_alloc] at hz1
  go_wp2_with fail
  refine (pname_any p s _ ((hS0 _ _).keep hgz)).mono ?_
  rintro e w5 ⟨rfl, hps5, hg5⟩
  have z5 := hg5.size
  have h05 : w5.heap[w.heap.size]? = some (.cells zeroX 26 (0, 0)) := by
    rw [hg5.get (by omega) (by omega), hgz.block _ (by simp; omega)]; exact h0a _
  have hgo5 : Go1 p w w5 := ((Go1.of (hA _ _)).block2 hgz).trans hg5
  obtain ⟨n1, hn1'⟩ : ∃ n1, s.name.1 = n1 := ⟨_, rfl⟩
  obtain ⟨s5, hs5⟩ : ∃ s5, s.name.2 = s5 := ⟨_, rfl⟩
  obtain ⟨R, hR0⟩ : ∃ R, nameS s = R := ⟨_, rfl⟩
  have HR : Hid (R = (if s5.is 4 ⟨#[46]⟩ then (let m := s5.step.name; (.mk { op := 2, tab := n1, name := m.1 } [], m.2)) else (.mk { op := 2, name := n1 } [], s5))) := hid (by rw [← hR0, ← hs5, ← hn1']; rfl)
  rw [hn1']
  rw [hs5] at hps5
  clear hg5 hS0 hA hA1 h0a hn1' hs5 hgz
  go_wp2_with fail
  refine (sign_any' p ⟨#[46]⟩ s5 _ hps5).mono ?_
  rintro e w6 ⟨rfl, hps6, hg6⟩
  have z6 := hg6.size
  have h06 : w6.heap[w.heap.size]? = some (.cells zeroX 26 (0, 0)) := by
    rw [hg6.get (by omega) (by omega)]; exact h05
  have hgo6 := hgo5.trans hg6
  clear hg6 hps5 hgo5 h05
  cases hB : s5.is 4 ⟨#[46]⟩ with
  | true =>
    rw [show (s5.may 4 ⟨#[46]⟩).2 = s5.step by simp [Ps.may, hB]] at hps6
    go_wp2_with fail
    refine (pname_any p s5.step _ hps6).mono ?_
    rintro e w7 ⟨rfl, hps7, hg7⟩
    have FI : Hid (∀ W5, Go1 w.heap.size w7 W5 → Rx p w (nameS s) (XR.val ⟨{ op := 2, tab := n1, name := s5.step.name.1 }, none, 0, 0⟩) W5) := hid (fun W5 h5 => by
      rw [hR0, HR.out, hB]
      exact giveG (R := (.mk { op := 2, tab := n1, name := s5.step.name.1 } [], s5.step.name.2)) hpw rfl (formZ (S := fun b => w.heap.size ≤ b ∧ b ≠ w.heap.size)) hps7 (hgo6.trans hg7) (fun _ => rfl) h5)
    have H05 : Hid (w7.heap[w.heap.size]? = some (.cells zeroX 26 (0, 0))) := hid (by rw [hg7.get (by omega) (by omega)]; exact h06)
    clear hps6 hps7 hg7 hgo6 h06 HR hR0
    generalize s5.step.name.1 = n2 at *
    go_wp2_with (guard_target =~ wpList _ _ _ (Oper.mk _ (Op.store 26 _ _) _ _ _ _ :: _) _ _; refine st_row (ty := 26) rfl rfl w.heap.size _ rfl rfl 26 _ (H05.out) (by kernel_rfl) rfl (by kernel_rfl) ?_; intro W5 hW5 gW5 zW5)
    (try change bodyPost _ _ _ _ _ _)
    have hT := Rg.blk_cells hW5
    refine bodyPost_ret (v := XR.val ⟨{ op := 2, tab := n1, name := n2 }, none, 0, 0⟩) (by simp [results, Tryz.results130, go_sem, XR.val, nul, hT]; try rfl) rfl ⟨_, rfl, FI.out W5 gW5⟩
  | false =>
    rw [show (s5.may 4 ⟨#[46]⟩).2 = s5 by simp [Ps.may, hB]] at hps6
    have FI : Hid (∀ W5, Go1 w.heap.size w6 W5 → Rx p w (nameS s) (XR.val ⟨{ op := 2, name := n1 }, none, 0, 0⟩) W5) := hid (fun W5 h5 => by
      rw [hR0, HR.out, hB]
      exact giveG (R := (.mk { op := 2, name := n1 } [], s5)) hpw rfl (formZ (S := fun b => w.heap.size ≤ b ∧ b ≠ w.heap.size)) hps6 hgo6 (fun _ => rfl) h5)
    have H05 := hid h06
    clear hps6 hgo6 h06 HR hR0
    go_wp2_with (guard_target =~ wpList _ _ _ (Oper.mk _ (Op.store 26 _ _) _ _ _ _ :: _) _ _; refine st_row (ty := 26) rfl rfl w.heap.size _ rfl rfl 26 _ (H05.out) (by kernel_rfl) rfl (by kernel_rfl) ?_; intro W5 hW5 gW5 zW5)
    (try change bodyPost _ _ _ _ _ _)
    have hT := Rg.blk_cells hW5
    refine bodyPost_ret (v := XR.val ⟨{ op := 2, name := n1 }, none, 0, 0⟩) (by simp [results, Tryz.results130, go_sem, XR.val, nul, hT]; try rfl) rfl ⟨_, rfl, FI.out W5 gW5⟩
theorem tail_is {s : Ps} {k : Nat} {c : ByteArray} (h : s.is k c = false) (hk : (s.headK == k) = true) (hk0 : k ≠ 0) : (s.headT == c.data.toList) = false := by
  match s, h, hk with
  | .ok (t :: r) d, h, hk =>
    simp only [Ps.is] at h
    have hk' : (t.tk.kind == k) = true := hk
    rw [hk'] at h
    show (t.tk.text == c.data.toList) = false
    simpa using h
  | .ok [] d, h, hk => exact absurd (by simpa [Ps.headK] using hk) (Ne.symm hk0)
  | .bad e a, h, hk => exact absurd (by simpa [Ps.headK] using hk) (Ne.symm hk0)
theorem single_any (E : Pa Ex) (hdp : DP E) (p N : Nat) (hor : RdL 21 E p N) (hex : RdsL 122 (sep E) p N) : Rd 130 (single E) p N := fun s w hS hsN => by
  match hs : s, hS with
  | .bad e a, hS => exact single_bad E p e a w hS
  | .ok [] d, hS => exact hS.2.nil.elim
  | .ok (t :: tr) d, hS =>
    rw [← hs] at hS hsN ⊢
    have hgood : s.good = true := by rw [hs]; rfl
    have hhK : s.headK = t.tk.kind := by rw [hs]; rfl
    have hhT : s.headT = t.tk.text := by rw [hs]; rfl
    by_cases hk2 : t.tk.kind = 2
    · exact single_int E p t tr d s hs w hS hk2
    by_cases hk3 : t.tk.kind = 3
    · exact single_text E p t tr d s hs w hS hk3
    cases h1 : s.is 1 ⟨#[116, 114, 117, 101]⟩ with
    | true => exact single_true E p t tr d s hs w hS h1
    | false =>
    cases h2 : s.is 1 ⟨#[102, 97, 108, 115, 101]⟩ with
    | true => exact single_false E p t tr d s hs w hS h2 h1
    | false =>
    cases h3 : s.is 1 ⟨#[110, 117, 108, 108]⟩ with
    | true => exact single_null E p t tr d s hs w hS h3 h1 h2
    | false =>
    cases h4 : s.is 4 ⟨#[40]⟩ with
    | true =>
      cases hD : s.down.good with
      | false => exact single_paren_full E p t tr d s hs w hS h4 hD
      | true =>
        obtain ⟨d1, d2, d3, d4⟩ := down_good hD
        have := (is_step (s := s.down) (k := 4) (c := ⟨#[40]⟩) (by rw [d4]; exact h4) (by decide)).1
        exact single_paren E p t tr d s hs w hS h4 hD hdp (fun w' h' => hor _ w' h' (by omega))
    | false =>
    by_cases hk1 : t.tk.kind = 1
    · have hcall : ∀ w', PS p w' s → Calls Tryz.prog 134 #[.pointer (some ⟨p, 0, none⟩), .string (txt s.headT)] w' (Px p w' (callS E s.headT s)) := fun w' h' => call_any E hdp p N hor hex s.headT s w' h' hgood (by rw [hhK]; exact hk1) hsN
      cases hbt : built t.tk.text with
      | true => exact single_built E p t tr d s hs w hS h1 h2 h3 hk1 h4 hbt hcall
      | false =>
        cases hnb : nameB t.tk.text with
        | false => exact single_noname E p t tr d s hs w hS h1 h2 h3 h4 hk1 hbt hnb
        | true =>
          cases htl : s.tail.is 4 ⟨#[40]⟩ with
          | true => exact single_next E p t tr d s hs w hS h1 h2 h3 hk1 h4 hbt hnb htl hcall
          | false =>
            cases hk4 : s.tail.headK == 4 with
            | false => exact single_nextk E p t tr d s hs w hS h1 h2 h3 h4 hk1 hbt hnb htl hk4
            | true => exact single_nextt E p t tr d s hs w hS h1 h2 h3 h4 hk1 hbt hnb htl hk4 (tail_is htl hk4 (by decide))
    · exact single_nokind E p t tr d s hs w hS h1 h2 h3 h4 hk2 hk3 hk1
end Go.Proofs.YtbeinfhgfflneaaGreat
end
