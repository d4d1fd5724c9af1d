/- redo: unlike, rising, fine. -/
import Derived.Test.YtmanokhadppeeaaR1
namespace Go.Proofs.Ytmanokhadppeeaa
open Go.RowKit
set_option linter.unusedSimpArgs false
set_option linter.unusedVariables false
attribute [local go_sem] Rg.leads_value Rg.leads_skip Rg.leads_enter Rg.brings_value Rg.brings_skip Rg.brings_enter Rg.bringsG_value Rg.bringsG_enter
theorem i64w {n : Int} (h0 : 0 ≤ n) (h1 : n ≤ 9223372036854775807) : IntKind.i64.wrap n = n := by rw [IntKind.wrap_i64]; omega
/-- a truth comes back; if it is true, P holds -/
def RetB (P : Prop) (w : World) (e : Ending) (w' : World) : Prop := ∃ b : Bool, e = .returned (.bool b) ∧ (b = true → P) ∧ Gr w w'
set_option maxHeartbeats 2000000 in
set_option maxRecDepth 100000 in
theorem unlike_any (oa : Option Addr) (c : Nat) (l : List Tx) (w : World) (hl : l.length ≤ 9223372036854775807) (hp : TAt w oa l) :
    Calls Try.prog 32 #[.slice oa l.length c] w (RetB (l.length ≤ 20) w) := by
  have HP := hid hp
  clear hp
  go_enter Try.func32, Try.ntmps32
  go_wp2_with fail
  go_loopw [3] (fun i wr => ∃ k : Nat, i = .int .i64 ((k : Int) + 1) ∧ (k ≤ l.length) ∧ Gr w wr) (fun i _ => l.length - (intOf i).toNat)
  case atStart => exact ⟨0, rfl, Nat.zero_le _, Gr.refl _⟩
  case round =>
    obtain ⟨k, rfl, hk, hg⟩ := hrel
    by_cases hlt : k + 1 < l.length
    · have HQ := HP.out.keep hg
      obtain ⟨b, off, rfl, c0, -, -⟩ := t_get HQ (k + 1) hlt
      obtain ⟨b', off', e', d0, -, -⟩ := t_get HQ k (by omega)
      cases e'
      have hbb := lt_of_cell c0
      have g1 : decide ((l.length : Int) ≤ (k : Int) + 1) = false := by rw [decide_eq_false_iff_not]; omega
      have g2 : (k : Int) + 1 < (l.length : Int) := by omega
      have g3 : (0 : Int) ≤ (k : Int) + 1 := by omega
      have g4 : (k : Int) < (l.length : Int) := by omega
      have g5 : (0 : Int) ≤ (k : Int) := by omega
      have g6 : IntKind.i64.wrap (k : Int) = (k : Int) := i64w (by omega) (by omega)
      clear HQ
      generalize l[k].id = x at *
      generalize l[k + 1].id = y at *
      obtain ⟨tb, htb⟩ : ∃ q, decide (y ≤ x) = q := ⟨_, rfl⟩
      go_upto_region 4 with (fail)
      have hg0 := hg
      refine Rg.region_text 11 (Below.drew (Below.refl _ _)) (by kernel_rfl) (by kernel_rfl) (fun _ _ d _ _ h => by cases d <;> exact h) ?_
      simp only [List.append_eq, List.cons_append, List.nil_append, List.take_succ_cons, List.take_zero, List.drop_succ_cons, List.drop_zero]
      repeat (first
          | (refine Rg.wpDets_skip (by rfl) ?_; simp only [Act.put, List.setIfInBounds_toArray, List.set_cons_zero, List.set_cons_succ])
          | (refine Rg.wpDets_step ?_ (by rfl) (fun w hS => ?_) ?_
             rotate_left
             · have hc := Gr.cells hS
               have hf := Gr.frees hS
               go_simp
               first
               | (refine ⟨?_, Below.refl _ _⟩; with_reducible rfl)
             simp only [Act.put, List.setIfInBounds_toArray, List.set_cons_zero, List.set_cons_succ]))
      refine Rg.wpDets_nil ?_
      refine Rg.wpFlts_nil ?_
      refine Rg.wpLays_nil ?_
      intro w1 hK
      have hg : Gr _ w1 := hK.up
      have hc := Gr.cells hg
      have hf := Gr.frees hg
      have hz := Gr.size hg
      try simp only [World.size_alloc, World.size_setCell, World.size_drew] at hz
      try have : 0 < w1.heap.size := by omega
      try have : w.heap.size < w1.heap.size := by omega
      try have : w.heap.size + 1 < w1.heap.size := by omega
      try have : w.heap.size + 1 + 1 < w1.heap.size := by omega
      try have : w.heap.size + 1 + 1 + 1 < w1.heap.size := by omega
      have HG := hid (hg0.trans hg)
      cases tb
      · go_wp2
        exact ⟨⟨k + 1, by go_num, by omega, HG.out⟩, by simp [intOf]; omega⟩
      · go_wp2
        go_ret
        exact ⟨false, rfl, by simp, HG.out⟩
    · have g1 : decide ((l.length : Int) ≤ (k : Int) + 1) = true := by rw [decide_eq_true_iff]; omega
      obtain ⟨tb, htb⟩ : ∃ q, decide ((l.length : Int) ≤ 20) = q := ⟨_, rfl⟩
      have HB : Hid (tb = true → l.length ≤ 20) := hid (fun h => by rw [h] at htb; have := of_decide_eq_true htb; omega)
      go_wp2
      go_ret
      exact ⟨tb, by rw [← htb]; rfl, HB.out, hg⟩
set_option maxHeartbeats 2000000 in
set_option maxRecDepth 100000 in
theorem rising_any (oa : Option Addr) (c : Nat) (l : List Ln) (w : World) (hl : l.length ≤ 9223372036854775807) (hp : LAt w oa l) :
    Calls Try.prog 33 #[.slice oa l.length c] w (RetB (l.length ≤ 100) w) := by
  have HP := hid hp
  clear hp
  go_enter Try.func33, Try.ntmps33
  go_wp2_with fail
  go_loopw [3] (fun i wr => ∃ k : Nat, i = .int .i64 (k : Int) ∧ (k ≤ l.length) ∧ Gr w wr) (fun i _ => l.length - (intOf i).toNat)
  case atStart => exact ⟨0, rfl, Nat.zero_le _, Gr.refl _⟩
  case round =>
    obtain ⟨k, rfl, hk, hg⟩ := hrel
    by_cases hlt : k < l.length
    · have HQ := HP.out.keep hg
      obtain ⟨b, off, rfl, c0, -⟩ := n_get HQ k hlt
      have hbb := lt_of_cell c0
      have g1 : decide ((l.length : Int) ≤ (k : Int)) = false := by rw [decide_eq_false_iff_not]; omega
      have g2 : (k : Int) < (l.length : Int) := by omega
      have g3 : (0 : Int) ≤ (k : Int) := by omega
      have hg0 := hg
      by_cases h1 : l[k].lsn < 1
      · have e1 : decide (l[k].lsn < 1) = true := by simpa using h1
        clear h1 HQ
        generalize l[k].lsn = y at *
        go_upto_region 4 with (fail)
        refine Rg.region_text 23 (Below.drew (Below.refl _ _)) (by kernel_rfl) (by kernel_rfl) (fun _ _ d _ _ h => by cases d <;> exact h) ?_
        simp only [List.append_eq, List.cons_append, List.nil_append, List.take_succ_cons, List.take_zero, List.drop_succ_cons, List.drop_zero]
        repeat (first
            | (refine Rg.wpDets_skip (by rfl) ?_; simp only [Act.put, List.setIfInBounds_toArray, List.set_cons_zero, List.set_cons_succ])
            | (refine Rg.wpDets_step ?_ (by rfl) (fun w hS => ?_) ?_
               rotate_left
               · have hc := Gr.cells hS
                 have hf := Gr.frees hS
                 go_simp
                 first
                 | (refine ⟨?_, Below.refl _ _⟩; with_reducible rfl)
               simp only [Act.put, List.setIfInBounds_toArray, List.set_cons_zero, List.set_cons_succ]))
        refine Rg.wpDets_nil ?_
        refine Rg.wpFlts_nil ?_
        refine Rg.wpLays_nil ?_
        intro w1 hK
        have hg : Gr _ w1 := hK.up
        have hc := Gr.cells hg
        have hf := Gr.frees hg
        have hz := Gr.size hg
        try simp only [World.size_alloc, World.size_setCell, World.size_drew] at hz
        try have : 0 < w1.heap.size := by omega
        try have : w.heap.size < w1.heap.size := by omega
        try have : w.heap.size + 1 < w1.heap.size := by omega
        try have : w.heap.size + 1 + 1 < w1.heap.size := by omega
        try have : w.heap.size + 1 + 1 + 1 < w1.heap.size := by omega
        have HG := hid (hg0.trans hg)
        go_wp2
        go_ret
        exact ⟨false, rfl, by simp, HG.out⟩
      · have e1 : decide (l[k].lsn < 1) = false := by simpa using h1
        clear h1
        cases k with
        | zero =>
          have c0 : wr.cell? ⟨b, off, none⟩ = some (.int .i64 l[0].lsn) := by simpa using c0
          clear HQ
          generalize l[0].lsn = y at *
          go_upto_region 4 with (fail)
          refine Rg.region_text 23 (Below.drew (Below.refl _ _)) (by kernel_rfl) (by kernel_rfl) (fun _ _ d _ _ h => by cases d <;> exact h) ?_
          simp only [List.append_eq, List.cons_append, List.nil_append, List.take_succ_cons, List.take_zero, List.drop_succ_cons, List.drop_zero]
          repeat (first
              | (refine Rg.wpDets_skip (by rfl) ?_; simp only [Act.put, List.setIfInBounds_toArray, List.set_cons_zero, List.set_cons_succ])
              | (refine Rg.wpDets_step ?_ (by rfl) (fun w hS => ?_) ?_
                 rotate_left
                 · have hc := Gr.cells hS
                   have hf := Gr.frees hS
                   go_simp
                   first
                   | (refine ⟨?_, Below.refl _ _⟩; with_reducible rfl)
                 simp only [Act.put, List.setIfInBounds_toArray, List.set_cons_zero, List.set_cons_succ]))
          refine Rg.wpDets_nil ?_
          refine Rg.wpFlts_nil ?_
          refine Rg.wpLays_nil ?_
          intro w1 hK
          have hg : Gr _ w1 := hK.up
          have hc := Gr.cells hg
          have hf := Gr.frees hg
          have hz := Gr.size hg
          try simp only [World.size_alloc, World.size_setCell, World.size_drew] at hz
          try have : 0 < w1.heap.size := by omega
          try have : w.heap.size < w1.heap.size := by omega
          try have : w.heap.size + 1 < w1.heap.size := by omega
          try have : w.heap.size + 1 + 1 < w1.heap.size := by omega
          try have : w.heap.size + 1 + 1 + 1 < w1.heap.size := by omega
          have HG := hid (hg0.trans hg)
          go_wp2
          exact ⟨⟨1, rfl, by omega, HG.out⟩, by simp [intOf]; omega⟩
        | succ k =>
          obtain ⟨b', off', e', d0, -⟩ := n_get HQ k (by omega)
          cases e'
          have g4 : (k : Int) < (l.length : Int) := by omega
          have g5 : (0 : Int) ≤ (k : Int) := by omega
          have g6 : IntKind.i64.wrap (k : Int) = (k : Int) := i64w (by omega) (by omega)
          have g7 : (0 : Int) < (((k + 1 : Nat)) : Int) := by omega
          have ek : (((k + 1 : Nat)) : Int) = (k : Int) + 1 := by omega
          rw [ek] at *
          clear HQ
          generalize l[k].lsn = x at *
          generalize l[k + 1].lsn = y at *
          obtain ⟨tb, htb⟩ : ∃ q, decide (y ≤ x) = q := ⟨_, rfl⟩
          go_upto_region 4 with (fail)
          refine Rg.region_text 23 (Below.drew (Below.refl _ _)) (by kernel_rfl) (by kernel_rfl) (fun _ _ d _ _ h => by cases d <;> exact h) ?_
          simp only [List.append_eq, List.cons_append, List.nil_append, List.take_succ_cons, List.take_zero, List.drop_succ_cons, List.drop_zero]
          repeat (first
              | (refine Rg.wpDets_skip (by rfl) ?_; simp only [Act.put, List.setIfInBounds_toArray, List.set_cons_zero, List.set_cons_succ])
              | (refine Rg.wpDets_step ?_ (by rfl) (fun w hS => ?_) ?_
                 rotate_left
                 · have hc := Gr.cells hS
                   have hf := Gr.frees hS
                   go_simp
                   first
                   | (refine ⟨?_, Below.refl _ _⟩; with_reducible rfl)
                 simp only [Act.put, List.setIfInBounds_toArray, List.set_cons_zero, List.set_cons_succ]))
          refine Rg.wpDets_nil ?_
          refine Rg.wpFlts_nil ?_
          refine Rg.wpLays_nil ?_
          intro w1 hK
          have hg : Gr _ w1 := hK.up
          have hc := Gr.cells hg
          have hf := Gr.frees hg
          have hz := Gr.size hg
          try simp only [World.size_alloc, World.size_setCell, World.size_drew] at hz
          try have : 0 < w1.heap.size := by omega
          try have : w.heap.size < w1.heap.size := by omega
          try have : w.heap.size + 1 < w1.heap.size := by omega
          try have : w.heap.size + 1 + 1 < w1.heap.size := by omega
          try have : w.heap.size + 1 + 1 + 1 < w1.heap.size := by omega
          have HG := hid (hg0.trans hg)
          cases tb
          · go_wp2
            exact ⟨⟨k + 1 + 1, by go_num, by omega, HG.out⟩, by simp [intOf]; omega⟩
          · go_wp2
            go_ret
            exact ⟨false, rfl, by simp, HG.out⟩
    · have g1 : decide ((l.length : Int) ≤ (k : Int)) = true := by rw [decide_eq_true_iff]; omega
      obtain ⟨tb, htb⟩ : ∃ q, decide ((l.length : Int) ≤ 100) = q := ⟨_, rfl⟩
      have HB : Hid (tb = true → l.length ≤ 100) := hid (fun h => by rw [h] at htb; have := of_decide_eq_true htb; omega)
      go_wp2
      go_ret
      exact ⟨tb, by rw [← htb]; rfl, HB.out, hg⟩
def FiRel (w : World) (l : List Ln) (s3 : Value) (wr : World) : Prop := ∃ k : Nat, s3 = .int .i64 (k : Int) ∧ k ≤ l.length ∧ Gr w wr
def FjRel (w : World) (n : Nat) (s5 : Value) (wr : World) : Prop := ∃ k : Nat, s5 = .int .i64 ((k : Int) + 1) ∧ k ≤ n ∧ Gr w wr
set_option maxHeartbeats 2000000 in
set_option maxRecDepth 100000 in
theorem fine_any (oa : Option Addr) (c : Nat) (l : List Ln) (w : World) (hl : l.length ≤ 9223372036854775807) (hp : LAt w oa l) (hs : ∀ x ∈ l, x.ts.length ≤ 9223372036854775807 ∧ x.ds.length ≤ 9223372036854775807) :
    Calls Try.prog 10 #[.slice oa l.length c] w (RetB (l.length ≤ 100) w) := by
  have HP := hid hp
  have HS := hid hs
  have RI := hid (fun W (hW : Gr w W) => rising_any oa c l W hl (hp.keep hW))
  clear hp hs
  go_enter Try.func10, Try.ntmps10
  go_wp2_with fail
  go_loopw [3] (fun s3 wr => FiRel w l s3 wr) (fun s3 _ => l.length - (intOf s3).toNat)
  case atStart => exact ⟨0, rfl, Nat.zero_le _, Gr.refl _⟩
  case round =>
    obtain ⟨k, rfl, hk, hg⟩ := hrel
    by_cases hlt : k < l.length
    · have HQ := HP.out.keep hg
      have HX := hid (HQ.ok _ (List.getElem_mem hlt))
      have hsz := HS.out _ (List.getElem_mem hlt)
      obtain ⟨b, off, rfl, -, -, -, -, -, -, -, -, -, c9, c10, -⟩ := n_get HQ k hlt
      have hbb := lt_of_cell c9
      have g1 : decide ((l.length : Int) ≤ (k : Int)) = false := by rw [decide_eq_false_iff_not]; omega
      have g2 : (k : Int) < (l.length : Int) := by omega
      have g3 : (0 : Int) ≤ (k : Int) := by omega
      clear HQ
      generalize l[k] = x at *
      have HGK := hid hg
      have UN := hid (fun W (hW : Gr wr W) => unlike_any x.ot x.ct x.ts W hsz.1 (HX.out.t.keep hW))
      go_upto_region 4 with (fail)
      go_wp2_with fail
      go_loopw [5] (fun s5 wq => FjRel wr x.ds.length s5 wq) (fun s5 _ => x.ds.length - (intOf s5).toNat)
      case atStart => exact ⟨0, rfl, Nat.zero_le _, Gr.refl _⟩
      case round =>
        obtain ⟨j, rfl, hj, hgj⟩ := hrel
        have c9 := hgj.keep c9
        have c10 := hgj.keep c10
        have hbb := lt_of_cell c9
        by_cases hjt : j + 1 < x.ds.length
        · have HD := HX.out.d.keep hgj
          obtain ⟨b1, off1, e1, c0, -⟩ := d_get HD (j + 1) hjt
          obtain ⟨b', off', e', d0, -⟩ := d_get HD j (by omega)
          have HE := e1.symm.trans e'
          cases HE
          clear e'
          have hb1 := lt_of_cell c0
          rw [e1] at c10
          have f1 : decide ((x.ds.length : Int) ≤ (j : Int) + 1) = false := by rw [decide_eq_false_iff_not]; omega
          have f2 : (j : Int) + 1 < (x.ds.length : Int) := by omega
          have f3 : (0 : Int) ≤ (j : Int) + 1 := by omega
          have f4 : (j : Int) < (x.ds.length : Int) := by omega
          have f5 : (0 : Int) ≤ (j : Int) := by omega
          have f6 : IntKind.i64.wrap (j : Int) = (j : Int) := i64w (by omega) (by omega)
          clear HD
          generalize x.ds[j].page = p at *
          generalize x.ds[j + 1].page = q at *
          obtain ⟨tb, htb⟩ : ∃ z, decide (q ≤ p) = z := ⟨_, rfl⟩
          have hg0 := hgj
          go_upto_region 8 with (fail)
          refine Rg.region_text 11 (Below.drew (Below.refl _ _)) (by kernel_rfl) (by kernel_rfl) (fun _ _ d _ _ h => by cases d <;> exact h) ?_
          simp only [List.append_eq, List.cons_append, List.nil_append, List.take_succ_cons, List.take_zero, List.drop_succ_cons, List.drop_zero]
          repeat (first
              | (refine Rg.wpDets_skip (by rfl) ?_; simp only [Act.put, List.setIfInBounds_toArray, List.set_cons_zero, List.set_cons_succ])
              | (refine Rg.wpDets_step ?_ (by rfl) (fun w hS => ?_) ?_
                 rotate_left
                 · have hc := Gr.cells hS
                   have hf := Gr.frees hS
                   go_simp
                   first
                   | (refine ⟨?_, Below.refl _ _⟩; with_reducible rfl)
                 simp only [Act.put, List.setIfInBounds_toArray, List.set_cons_zero, List.set_cons_succ]))
          refine Rg.wpDets_nil ?_
          refine Rg.wpFlts_nil ?_
          refine Rg.wpLays_nil ?_
          intro w1 hK
          have hg : Gr _ w1 := hK.up
          have hc := Gr.cells hg
          have hf := Gr.frees hg
          have hz := Gr.size hg
          try simp only [World.size_alloc, World.size_setCell, World.size_drew] at hz
          try have : 0 < w1.heap.size := by omega
          try have : w.heap.size < w1.heap.size := by omega
          try have : w.heap.size + 1 < w1.heap.size := by omega
          try have : w.heap.size + 1 + 1 < w1.heap.size := by omega
          try have : w.heap.size + 1 + 1 + 1 < w1.heap.size := by omega
          have HG := hid (hg0.trans hg)
          cases tb
          · go_wp2
            exact ⟨⟨j + 1, by go_num, by omega, HG.out⟩, by simp [intOf]; omega⟩
          · go_wp2
            go_ret
            exact ⟨false, rfl, by simp, HGK.out.trans HG.out⟩
        · have f1 : decide ((x.ds.length : Int) ≤ (j : Int) + 1) = true := by rw [decide_eq_true_iff]; omega
          go_wp2_with fail
          refine (UN.out _ hgj).mono ?_
          rintro e w1 ⟨tb, rfl, -, hg1⟩
          have HG := hid (HGK.out.trans (hgj.trans hg1))
          cases tb
          · go_wp2
            go_ret
            exact ⟨false, rfl, by simp, HG.out⟩
          · go_wp2
            exact ⟨⟨k + 1, by go_num, by omega, HG.out⟩, by simp [intOf]; omega⟩
    · have g1 : decide ((l.length : Int) ≤ (k : Int)) = true := by rw [decide_eq_true_iff]; omega
      go_wp2_with fail
      refine (RI.out _ hg).mono ?_
      rintro e w1 ⟨tb, rfl, ht, hg1⟩
      have HT := hid ht
      have HG := hid (hg.trans hg1)
      clear ht
      go_wp2
      go_ret
      exact ⟨tb, rfl, HT.out, HG.out⟩
end Go.Proofs.Ytmanokhadppeeaa
