/- row: rows alike. -/
import Derived.Test.YtacbhkmkknicoaaDoorC2
namespace Go.Proofs.YtacbhkmkknicoaaDoor
open Go.RowKit
set_option linter.unusedSimpArgs false
set_option linter.unusedVariables false
attribute [local go_sem] Rg.leads_value Rg.leads_skip Rg.leads_enter Rg.brings_value Rg.brings_skip Rg.brings_enter Rg.bringsG_value Rg.bringsG_enter
/-- are two values the same? -/
def veqB (a b : V) : Bool := (a.t == b.t) && ((a.n == b.n) && ((a.s.toList == b.s.toList) && (a.b == b.b)))
theorem v_equal (a b : V) (W : World) : (Op.equalIn 10000 32 a.val b.val).run Tryd.prog W = .ok (veqB a b) W := by
  obtain ⟨t, n, s, b'⟩ := a
  obtain ⟨t2, n2, s2, b2'⟩ := b
  unfold V.val veqB
  rw [run_equalIn_agg W 9999 32 _ _ v_struct v_plain]
  simp only
  cases h1 : (t == t2) <;> cases h2 : (n == n2) <;> cases h3 : (s.toList == s2.toList) <;> cases h4 : (b' == b2')
  all_goals
    try simp only [beq_eq_false_iff_ne, ne_eq, beq_iff_eq] at h1 h2 h4
    go_simp
def sameB : List V → List V → Bool
  | [], [] => true
  | a :: r, b :: s => veqB a b && sameB r s
  | _, _ => false
theorem sameB_len : ∀ (l m : List V), l.length ≠ m.length → sameB l m = false
  | [], [], h => absurd rfl h
  | [], _ :: _, _ => rfl
  | _ :: _, [], _ => rfl
  | a :: r, b :: s, h => by
    unfold sameB
    rw [sameB_len r s (by simpa using h), Bool.and_false]
def SmRel (w : World) (l m : List V) (R : Bool) (s5 : Value) (wr : World) : Prop := ∃ k : Nat, s5 = .int .i64 (k : Int) ∧ k ≤ l.length ∧ sameB (l.drop k) (m.drop k) = R ∧ Gr w wr
set_option maxHeartbeats 4000000 in
set_option maxRecDepth 100000 in
theorem same_any (oa : Option Addr) (c : Nat) (l : List V) (ob : Option Addr) (d : Nat) (m : List V) (w : World) (hl : l.length ≤ 9223372036854775807) (hm : m.length ≤ 9223372036854775807) (hp : VAt w oa l) (hq : VAt w ob m) :
    Calls Tryd.prog 23 #[.slice oa l.length c, .slice ob m.length d] w fun e w' => e = .returned (.bool (sameB l m)) ∧ Gr w w' := by
  by_cases he : l.length = m.length
  · obtain ⟨R, hR⟩ : ∃ R, sameB l m = R := ⟨_, rfl⟩
    rw [hR]
    have S0 : Hid (SmRel w l m R (.int .i64 0) w) := hid ⟨0, rfl, Nat.zero_le _, hR, Gr.refl _⟩
    have HP := hid hp
    have HQ := hid hq
    have HE := hid he
    obtain ⟨n, hn⟩ : ∃ n, l.length = n := ⟨_, rfl⟩
    have hmn : m.length = n := by omega
    rw [hmn, hn]
    have HN := hid hn
    have HMN := hid hmn
    rw [hn] at hl
    clear hp hq hR he hn hmn hm
    go_enter Tryd.func23, Tryd.ntmps23
    go_wp2_with fail
    go_loopw [5] (fun s5 wr => SmRel w l m R s5 wr) (fun s5 _ => n - (intOf s5).toNat)
    case atStart => exact S0.out
    case round =>
      clear S0
      obtain ⟨k, rfl, hk, hR, hg⟩ := hrel
      have HR := hid hR
      rw [HN.out] at hk
      clear hR
      by_cases hlt : k < n
      · have hkl : k < l.length := by rw [HN.out]; exact hlt
        have hkm : k < m.length := by rw [HMN.out]; exact hlt
        have HR1 := HR.out
        rw [List.drop_eq_getElem_cons hkl, List.drop_eq_getElem_cons hkm] at HR1
        unfold sameB at HR1
        obtain ⟨b, off, rfl, c0, c1, c2, c3⟩ := v_get (HP.out.keep hg) k hkl
        obtain ⟨b', off', rfl, d0, d1, d2, d3⟩ := v_get (HQ.out.keep hg) k hkm
        have hbb := lt_of_cell c0
        have hbd := lt_of_cell d0
        have g1 : decide ((n : Int) ≤ (k : Int)) = false := by rw [decide_eq_false_iff_not]; omega
        have g2 : (k : Int) < (n : Int) := by omega
        have g3 : (0 : Int) ≤ (k : Int) := by omega
        have tg := v_guard
        have E1 := fun W => v_equal l[k] m[k] W
        generalize l[k] = x at *
        generalize m[k] = y at *
        unfold V.val at E1
        generalize veqB x y = r at *
        have H1 := hid HR1
        clear HR1 HR hkl hkm
        go_upto_region 6 with (fail)
        have hg0 := hg
        refine Rg.region_text 8 (Below.drew (Below.refl _ _)) (by kernel_rfl) (by kernel_rfl) (fun _ _ d _ _ h => by cases d <;> exact h) ?_
        simp only [List.append_eq, List.cons_append, List.nil_append, List.take_succ_cons, List.take_zero, List.drop_succ_cons, List.drop_zero]
        repeat (first
            | (refine Rg.wpDets_skip (by rfl) ?_; simp only [Act.put, List.setIfInBounds_toArray, List.set_cons_zero, List.set_cons_succ])
            | (refine Rg.wpDets_step ?_ (by rfl) (fun w hS => ?_) ?_
               rotate_left
               · have hc := Gr.cells hS
                 have hf := Gr.frees hS
                 go_simp
                 first
                 | (refine ⟨?_, Below.refl _ _⟩; with_reducible rfl)
               simp only [Act.put, List.setIfInBounds_toArray, List.set_cons_zero, List.set_cons_succ]))
        refine Rg.wpDets_nil ?_
        refine Rg.wpFlts_nil ?_
        refine Rg.wpLays_nil ?_
        intro w1 hK
        have hg : Gr _ w1 := hK.up
        have hc := Gr.cells hg
        have hf := Gr.frees hg
        have hz := Gr.size hg
        try simp only [World.size_alloc, World.size_setCell, World.size_drew] at hz
        try have : 0 < w1.heap.size := by omega
        try have : w.heap.size < w1.heap.size := by omega
        try have : w.heap.size + 1 < w1.heap.size := by omega
        try have : w.heap.size + 1 + 1 < w1.heap.size := by omega
        try have : w.heap.size + 1 + 1 + 1 < w1.heap.size := by omega
        have HG := hid (hg0.trans hg)
        cases r
        · have e2 : R = false := by have := H1.out; rw [Bool.false_and] at this; exact this.symm
          subst e2
          clear H1 hg hg0
          go_wp2
          go_ret
          exact ⟨rfl, HG.out⟩
        · have FI : Hid (SmRel w l m R (.int .i64 ((k : Int) + 1)) w1) := hid ⟨k + 1, by go_num, by rw [HN.out]; omega, by have := H1.out; rw [Bool.true_and] at this; exact this, HG.out⟩
          clear H1 hg hg0
          go_wp2
          exact ⟨FI.out, by simp [intOf]; omega⟩
      · obtain rfl : k = n := by omega
        have HR1 := HR.out
        rw [List.drop_eq_nil_of_le (by rw [HN.out]; exact Nat.le_refl _), List.drop_eq_nil_of_le (by rw [HMN.out]; exact Nat.le_refl _)] at HR1
        unfold sameB at HR1
        subst HR1
        have g1 : decide ((k : Int) ≤ (k : Int)) = true := by rw [decide_eq_true_iff]; omega
        clear HR HN HMN HE HP HQ
        go_wp2
        go_ret
        exact ⟨rfl, hg⟩
  · rw [sameB_len l m he]
    have q1 : ((l.length : Int) == (m.length : Int)) = false := by rw [beq_eq_false_iff_ne]; omega
    have q2 : ((l.length : Int) != (m.length : Int)) = true := by simp [bne, q1]
    clear hp hq
    go_enter Tryd.func23, Tryd.ntmps23
    go_wp2
    all_goals (go_ret; exact ⟨rfl, Gr.refl _⟩)
end Go.Proofs.YtacbhkmkknicoaaDoor
