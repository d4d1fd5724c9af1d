/- row: the reference's word on the value that bytes say. (By mkD2.py.) -/
import Derived.Test.YtacbhkmkknicoaaDoorSp
namespace Go.Proofs.YtacbhkmkknicoaaDoor
open Go.RowKit
set_option linter.unusedSimpArgs false
set_option linter.unusedVariables false
attribute [local go_sem] Rg.leads_value Rg.leads_skip Rg.leads_enter Rg.brings_value Rg.brings_skip Rg.brings_enter Rg.bringsG_value Rg.bringsG_enter
/-- what the reference's Decode tells -/
def gotR (r : Option (V × Nat)) : Value := match r with
  | none => .agg #[.int .i64 0, .int .i64 0, .string ⟨#[]⟩, .bool false, .int .i64 0, .bool false]
  | some p => .agg #[.int .i64 p.1.t, .int .i64 p.1.n, .string p.1.s, .bool p.1.b, .int .i64 (p.2 : Int), .bool true]
theorem Gr.set6 {a w : World} {g : Nat} (h : Gr a w) (hg : a.heap.size ≤ g) (x0 x1 x2 x3 x4 x5 : Value) : Gr a ((((((w.setCell ⟨g, 0, none⟩ x0).setCell ⟨g, 1, none⟩ x1).setCell ⟨g, 2, none⟩ x2).setCell ⟨g, 3, none⟩ x3).setCell ⟨g, 4, none⟩ x4).setCell ⟨g, 5, none⟩ x5) :=
  (((((h.setCell hg x0).setCell hg x1).setCell hg x2).setCell hg x3).setCell hg x4).setCell hg x5
def RxRel (w : World) (l : List Int) (T : Option (List Int × Nat)) (s5 s6 : Value) (wr : World) : Prop := ∃ (i : Nat) (acc : List Int), s6 = .int .i64 (i : Int) ∧ 1 ≤ i ∧ i ≤ l.length ∧ acc.length ≤ i ∧ wr.ownsRow w.heap.size 5 1 s5 acc.length (cellsF bF acc) ∧ txB l i acc = T ∧ Gr w wr ∧ wr.heap[w.heap.size]? = some (.cells #[.int .i64 0, .int .i64 0, .string ⟨#[]⟩, .bool false, .int .i64 0, .bool false] 96 (0, 0))
def RnRel (r : List Int) (w0 : World) (s3 s4 : Value) (wr : World) : Prop := ∃ k : Nat, s4 = .int .i64 ((k : Int) + 1) ∧ k ≤ 8 ∧ s3 = .int .u64 (u8v (r.take k)) ∧ wr = w0
def GoP (w : World) (R : Option (V × Nat)) (e : Ending) (w' : World) : Prop := e = .returned (gotR R) ∧ Gr w w'
set_option maxHeartbeats 8000000 in
set_option maxRecDepth 100000 in
theorem rdc_nil (ol : Option Addr) (cl : Nat) (w : World) : Calls Tryd.prog 59 #[.slice ol 0 cl] w (GoP w none) := by
  have FI : Hid (GoP w none (.returned (gotR none)) (w.alloc (.cells #[.int .i64 0, .int .i64 0, .string ⟨#[]⟩, .bool false, .int .i64 0, .bool false] 96))) := hid ⟨rfl, (Gr.refl _).alloc _⟩
  have FI2 : Hid (GoP w none (.returned (.agg #[.int .i64 0, .int .i64 0, .string ⟨#[]⟩, .bool false, .int .i64 0, .bool false])) (w.alloc (.cells #[.int .i64 0, .int .i64 0, .string ⟨#[]⟩, .bool false, .int .i64 0, .bool false] 96))) := FI
  clear FI
  have FI := FI2
  clear FI2
  generalize (none : Option (V × Nat)) = R at *
  go_enter Tryd.func59, Tryd.ntmps59
  go_wp2
  refine bodyPost_ret (by simp [results, Tryd.results59, go_sem]; try rfl) rfl FI.out
set_option maxHeartbeats 8000000 in
set_option maxRecDepth 100000 in
theorem rdc_zero (ol : Option Addr) (cl : Nat) (y : Int) (r : List Int) (w : World) (hp : BAt w ol (y :: r)) (hy : y = 0) : Calls Tryd.prog 59 #[.slice ol (y :: r).length cl] w (GoP w (some (nul, 1))) := by
  obtain ⟨R, hR⟩ : ∃ R, (some (nul, 1) : Option (V × Nat)) = R := ⟨_, rfl⟩
  rw [hR]
  obtain ⟨b, off, rfl, c0⟩ := b_get hp 0 (by simp)
  have hbb := lt_of_cell c0
  obtain ⟨n, hn⟩ : ∃ n, (y :: r).length = n := ⟨_, rfl⟩
  have hrn : r.length = n - 1 := by rw [← hn]; simp
  have hn1 : 1 ≤ n := by rw [← hn]; simp
  rw [hn]
  simp only [List.getElem_cons_zero, Nat.add_zero] at c0
  have g1 : ((n : Int) == 0) = false := by rw [beq_eq_false_iff_ne]; omega
  have g3 : (0 : Int) < (n : Int) := by omega
  have h0' : Gr w (w.alloc (.cells #[.int .i64 0, .int .i64 0, .string ⟨#[]⟩, .bool false, .int .i64 0, .bool false] 96)) := (Gr.refl _).alloc _
  have FI : Hid (GoP w R (.returned (.agg #[.int .i64 0, .int .i64 0, .string ⟨#[]⟩, .bool false, .int .i64 1, .bool true])) (w.alloc (.cells #[.int .i64 0, .int .i64 0, .string ⟨#[]⟩, .bool false, .int .i64 1, .bool true] 96))) := hid ⟨by rw [← hR]; rfl, (Gr.refl _).alloc _⟩
  subst hy
  clear hR hp hn hrn h0' 
  go_enter Tryd.func59, Tryd.ntmps59
  go_wp2
  refine bodyPost_ret (by simp [results, Tryd.results59, go_sem]; try rfl) rfl FI.out
set_option maxHeartbeats 8000000 in
set_option maxRecDepth 100000 in
theorem rdc_short (ol : Option Addr) (cl : Nat) (y : Int) (r : List Int) (w : World) (hp : BAt w ol (y :: r)) (hy : y = 1) (h8 : ¬ 8 ≤ r.length) : Calls Tryd.prog 59 #[.slice ol (y :: r).length cl] w (GoP w (none)) := by
  obtain ⟨R, hR⟩ : ∃ R, (none : Option (V × Nat)) = R := ⟨_, rfl⟩
  rw [hR]
  obtain ⟨b, off, rfl, c0⟩ := b_get hp 0 (by simp)
  have hbb := lt_of_cell c0
  obtain ⟨n, hn⟩ : ∃ n, (y :: r).length = n := ⟨_, rfl⟩
  have hrn : r.length = n - 1 := by rw [← hn]; simp
  have hn1 : 1 ≤ n := by rw [← hn]; simp
  rw [hn]
  simp only [List.getElem_cons_zero, Nat.add_zero] at c0
  have g1 : ((n : Int) == 0) = false := by rw [beq_eq_false_iff_ne]; omega
  have g3 : (0 : Int) < (n : Int) := by omega
  have h0' : Gr w (w.alloc (.cells #[.int .i64 0, .int .i64 0, .string ⟨#[]⟩, .bool false, .int .i64 0, .bool false] 96)) := (Gr.refl _).alloc _
  have FI : Hid (GoP w R (.returned (gotR none)) (w.alloc (.cells #[.int .i64 0, .int .i64 0, .string ⟨#[]⟩, .bool false, .int .i64 0, .bool false] 96))) := hid ⟨by rw [← hR], h0'⟩
  unfold gotR at FI
  have g2 : decide ((n : Int) < 9) = true := by rw [decide_eq_true_iff]; omega
  subst hy
  clear hR hp hn hrn h0' h8
  go_enter Tryd.func59, Tryd.ntmps59
  go_wp2
  refine bodyPost_ret (by simp [results, Tryd.results59, go_sem]; try rfl) rfl FI.out
set_option maxHeartbeats 8000000 in
set_option maxRecDepth 100000 in
theorem rdc_else (ol : Option Addr) (cl : Nat) (y : Int) (r : List Int) (w : World) (hp : BAt w ol (y :: r)) (h0 : y ≠ 0) (h1 : y ≠ 1) (h2 : y ≠ 2) (h3 : y ≠ 3) : Calls Tryd.prog 59 #[.slice ol (y :: r).length cl] w (GoP w (none)) := by
  obtain ⟨R, hR⟩ : ∃ R, (none : Option (V × Nat)) = R := ⟨_, rfl⟩
  rw [hR]
  obtain ⟨b, off, rfl, c0⟩ := b_get hp 0 (by simp)
  have hbb := lt_of_cell c0
  obtain ⟨n, hn⟩ : ∃ n, (y :: r).length = n := ⟨_, rfl⟩
  have hrn : r.length = n - 1 := by rw [← hn]; simp
  have hn1 : 1 ≤ n := by rw [← hn]; simp
  rw [hn]
  simp only [List.getElem_cons_zero, Nat.add_zero] at c0
  have g1 : ((n : Int) == 0) = false := by rw [beq_eq_false_iff_ne]; omega
  have g3 : (0 : Int) < (n : Int) := by omega
  have h0' : Gr w (w.alloc (.cells #[.int .i64 0, .int .i64 0, .string ⟨#[]⟩, .bool false, .int .i64 0, .bool false] 96)) := (Gr.refl _).alloc _
  have FI : Hid (GoP w R (.returned (gotR none)) (w.alloc (.cells #[.int .i64 0, .int .i64 0, .string ⟨#[]⟩, .bool false, .int .i64 0, .bool false] 96))) := hid ⟨by rw [← hR], h0'⟩
  unfold gotR at FI
  have q0 : (y == 0) = false := by simpa using h0
  have q1 : (y == 1) = false := by simpa using h1
  have q2 : (y == 2) = false := by simpa using h2
  have q3 : (y == 3) = false := by simpa using h3
  clear hR hp hn hrn h0' h0 h1 h2 h3
  go_enter Tryd.func59, Tryd.ntmps59
  go_wp2
  refine bodyPost_ret (by simp [results, Tryd.results59, go_sem]; try rfl) rfl FI.out
set_option maxHeartbeats 8000000 in
set_option maxRecDepth 100000 in
theorem rdc_bool (ol : Option Addr) (cl : Nat) (y c : Int) (r : List Int) (w : World) (hp : BAt w ol (y :: c :: r)) (hy : y = 3) : Calls Tryd.prog 59 #[.slice ol (y :: c :: r).length cl] w (GoP w (if c < 2 then some (boolV (c == 1), 2) else none)) := by
  obtain ⟨R, hR⟩ : ∃ R, (if c < 2 then some (boolV (c == 1), 2) else none) = R := ⟨_, rfl⟩
  rw [hR]
  obtain ⟨b', off', e', c1⟩ := b_get hp 1 (by simp)
  obtain ⟨b, off, rfl, c0⟩ := b_get hp 0 (by simp)
  have hbb := lt_of_cell c0
  obtain ⟨n, hn⟩ : ∃ n, (y :: c :: r).length = n := ⟨_, rfl⟩
  have hn2 : 2 ≤ n := by rw [← hn]; simp
  rw [hn]
  simp only [List.getElem_cons_zero, Nat.add_zero] at c0
  have g1 : ((n : Int) == 0) = false := by rw [beq_eq_false_iff_ne]; omega
  have g3 : (0 : Int) < (n : Int) := by omega
  have h0' : Gr w (w.alloc (.cells #[.int .i64 0, .int .i64 0, .string ⟨#[]⟩, .bool false, .int .i64 0, .bool false] 96)) := (Gr.refl _).alloc _
  cases e'
  simp only [List.getElem_cons_succ, List.getElem_cons_zero] at c1
  have g2 : decide ((1 : Int) < (n : Int)) = true := by rw [decide_eq_true_iff]; omega
  have g4 : (1 : Int) < (n : Int) := by omega
  have g5 : decide (1 < n) = true := by rw [decide_eq_true_iff]; omega
  by_cases h : c < 2
  · rw [if_pos h] at hR
    have q1 : decide (c < 2) = true := by simpa using h
    obtain ⟨t, ht⟩ : ∃ t, (c == 1) = t := ⟨_, rfl⟩
    rw [ht] at hR
    have FI : Hid (GoP w R (.returned (.agg #[.int .i64 3, .int .i64 0, .string ⟨#[]⟩, .bool t, .int .i64 2, .bool true])) (w.alloc (.cells #[.int .i64 3, .int .i64 0, .string ⟨#[]⟩, .bool t, .int .i64 2, .bool true] 96))) := hid ⟨by rw [← hR]; rfl, (Gr.refl _).alloc _⟩
    subst hy
    clear hR hp hn h0' h
    go_enter Tryd.func59, Tryd.ntmps59
    go_wp2
    refine bodyPost_ret (by simp [results, Tryd.results59, go_sem]; try rfl) rfl FI.out
  · rw [if_neg h] at hR
    have q1 : decide (c < 2) = false := by simpa using h
    have FI : Hid (GoP w R (.returned (gotR none)) (w.alloc (.cells #[.int .i64 0, .int .i64 0, .string ⟨#[]⟩, .bool false, .int .i64 0, .bool false] 96))) := hid ⟨by rw [← hR], h0'⟩
    unfold gotR at FI
    subst hy
    clear hR hp hn h0' h
    go_enter Tryd.func59, Tryd.ntmps59
    go_wp2
    refine bodyPost_ret (by simp [results, Tryd.results59, go_sem]; try rfl) rfl FI.out
set_option maxHeartbeats 8000000 in
set_option maxRecDepth 100000 in
theorem rdc_bool0 (ol : Option Addr) (cl : Nat) (y : Int) (w : World) (hp : BAt w ol [y]) (hy : y = 3) : Calls Tryd.prog 59 #[.slice ol [y].length cl] w (GoP w none) := by
  obtain ⟨R, hR⟩ : ∃ R, (none : Option (V × Nat)) = R := ⟨_, rfl⟩
  rw [hR]
  obtain ⟨b, off, rfl, c0⟩ := b_get hp 0 (by simp)
  have hbb := lt_of_cell c0
  simp only [List.getElem_cons_zero, Nat.add_zero] at c0
  have h0' : Gr w (w.alloc (.cells #[.int .i64 0, .int .i64 0, .string ⟨#[]⟩, .bool false, .int .i64 0, .bool false] 96)) := (Gr.refl _).alloc _
  have FI : Hid (GoP w R (.returned (gotR none)) (w.alloc (.cells #[.int .i64 0, .int .i64 0, .string ⟨#[]⟩, .bool false, .int .i64 0, .bool false] 96))) := hid ⟨by rw [← hR], h0'⟩
  unfold gotR at FI
  subst hy
  clear hR hp h0'
  go_enter Tryd.func59, Tryd.ntmps59
  go_wp2
  refine bodyPost_ret (by simp [results, Tryd.results59, go_sem]; try rfl) rfl FI.out
set_option maxHeartbeats 8000000 in
set_option maxRecDepth 100000 in
theorem rdc_num (ol : Option Addr) (cl : Nat) (y : Int) (r : List Int) (w : World) (hp : BAt w ol (y :: r)) (hb : byteI r) (hy : y = 1) (h8 : 8 ≤ r.length) : Calls Tryd.prog 59 #[.slice ol (y :: r).length cl] w (GoP w (some (numV (u8v (r.take 8) - 9223372036854775808), 9))) := by
  obtain ⟨R, hR⟩ : ∃ R, (some (numV (u8v (r.take 8) - 9223372036854775808), 9) : Option (V × Nat)) = R := ⟨_, rfl⟩
  rw [hR]
  have HR := hid hR
  have HP := hid hp
  have HB := hid hb
  obtain ⟨b, off, rfl, c0⟩ := b_get hp 0 (by simp)
  have hbb := lt_of_cell c0
  obtain ⟨n, hn⟩ : ∃ n, (y :: r).length = n := ⟨_, rfl⟩
  have hrn : r.length = n - 1 := by rw [← hn]; simp
  have hn1 : 1 ≤ n := by rw [← hn]; simp
  rw [hn]
  simp only [List.getElem_cons_zero, Nat.add_zero] at c0
  have g1 : ((n : Int) == 0) = false := by rw [beq_eq_false_iff_ne]; omega
  have g3 : (0 : Int) < (n : Int) := by omega
  have h0' : Gr w (w.alloc (.cells #[.int .i64 0, .int .i64 0, .string ⟨#[]⟩, .bool false, .int .i64 0, .bool false] 96)) := (Gr.refl _).alloc _
  have g2 : decide ((n : Int) < 9) = false := by rw [decide_eq_false_iff_not]; omega
  have hn9 : 9 ≤ n := by omega
  subst hy
  clear hR hp hn hrn hb
  go_enter Tryd.func59, Tryd.ntmps59
  go_wp2_with fail
  have S0 : Hid (RnRel r (w.alloc (.cells #[.int .i64 0, .int .i64 0, .string ⟨#[]⟩, .bool false, .int .i64 0, .bool false] 96)) (.int .u64 0) (.int .i64 1) (w.alloc (.cells #[.int .i64 0, .int .i64 0, .string ⟨#[]⟩, .bool false, .int .i64 0, .bool false] 96))) := hid ⟨0, by simp, by omega, rfl, rfl⟩
  go_loopw [3, 4] (fun s3 s4 wr => RnRel r (w.alloc (.cells #[.int .i64 0, .int .i64 0, .string ⟨#[]⟩, .bool false, .int .i64 0, .bool false] 96)) s3 s4 wr) (fun _ s4 _ => 10 - (intOf s4).toNat)
  case atStart => exact S0.out
  case round =>
    clear S0
    obtain ⟨k, rfl, hk, rfl, rfl⟩ := hrel
    by_cases hlt : k < 8
    · have hkr : k < r.length := by omega
      obtain ⟨b', off', e', c1⟩ := b_get HP.out (k + 1) (by simp; omega)
      cases e'
      simp only [List.getElem_cons_succ] at c1
      have hT := hid (u8v_take hkr)
      have hbd := u8v_bd HB.out k (by omega) (by omega)
      have hxb := HB.out _ (List.getElem_mem hkr)
      generalize r[k] = x at *
      generalize u8v (r.take k) = a at *
      have i1 : decide ((9 : Int) ≤ (k : Int) + 1) = false := by rw [decide_eq_false_iff_not]; omega
      have i2 : (k : Int) + 1 < (n : Int) := by omega
      have i3 : (0 : Int) ≤ (k : Int) + 1 := by omega
      have i4 : decide ((k : Int) + 1 < 9) = true := by rw [decide_eq_true_iff]; omega
      have hP := p256 k hlt
      have hw : IntKind.u64.wrap x = x := by rw [uwrap]; omega
      have hw2 : IntKind.u64.wrap (256 * a) = 256 * a := by rw [uwrap]; omega
      have hw3 : IntKind.u64.wrap (256 * a + x) = 256 * a + x := by rw [uwrap]; omega
      have FI : Hid (RnRel r (w.alloc (.cells #[.int .i64 0, .int .i64 0, .string ⟨#[]⟩, .bool false, .int .i64 0, .bool false] 96)) (.int .u64 (256 * a + x)) (.int .i64 ((k : Int) + 1 + 1)) (w.alloc (.cells #[.int .i64 0, .int .i64 0, .string ⟨#[]⟩, .bool false, .int .i64 0, .bool false] 96))) := hid ⟨k + 1, by go_num, by omega, by rw [hT.out], rfl⟩
      clear hT hP hbd hxb
      go_wp2
      exact ⟨FI.out, by simp [intOf]; omega⟩
    · obtain rfl : k = 8 := by omega
      have hbd := u8v_bd HB.out 8 (by omega) (by omega)
      have e8 : (256 : Int) ^ 8 = 18446744073709551616 := by decide
      rw [e8] at hbd
      obtain ⟨m, hm1, hm2⟩ := xor_back hbd.1 hbd.2
      generalize u8v (r.take 8) = a at *
      have FI : Hid (GoP w R (.returned (.agg #[.int .i64 1, .int .i64 (a - 9223372036854775808), .string ⟨#[]⟩, .bool false, .int .i64 9, .bool true])) (w.alloc (.cells #[.int .i64 1, .int .i64 (a - 9223372036854775808), .string ⟨#[]⟩, .bool false, .int .i64 9, .bool true] 96))) := hid ⟨by rw [← HR.out]; rfl, (Gr.refl _).alloc _⟩
      clear hbd e8 HR HP HB
      go_wp2
      refine bodyPost_ret (by simp [results, Tryd.results59, go_sem]; try rfl) rfl FI.out
set_option maxHeartbeats 8000000 in
set_option maxRecDepth 100000 in
theorem rdc_text (ol : Option Addr) (cl : Nat) (y : Int) (r : List Int) (w : World) (hp : BAt w ol (y :: r)) (hl : r.length ≤ 1000000000000) (hy : y = 2) : Calls Tryd.prog 59 #[.slice ol (y :: r).length cl] w (GoP w ((txt r).map fun p => (textV (strOfNums p.1), p.2 + 1))) := by
  obtain ⟨R, hR⟩ : ∃ R, ((txt r).map fun p => (textV (strOfNums p.1), p.2 + 1)) = R := ⟨_, rfl⟩
  rw [hR]
  have HP := hid hp
  obtain ⟨b, off, rfl, c0⟩ := b_get hp 0 (by simp)
  have hbb := lt_of_cell c0
  obtain ⟨n, hn⟩ : ∃ n, (y :: r).length = n := ⟨_, rfl⟩
  have hn1 : 1 ≤ n := by rw [← hn]; simp
  rw [hn]
  simp only [List.getElem_cons_zero, Nat.add_zero] at c0
  have g1 : ((n : Int) == 0) = false := by rw [beq_eq_false_iff_ne]; omega
  have g3 : (0 : Int) < (n : Int) := by omega
  have h0' : Gr w (w.alloc (.cells #[.int .i64 0, .int .i64 0, .string ⟨#[]⟩, .bool false, .int .i64 0, .bool false] 96)) := (Gr.refl _).alloc _
  obtain ⟨T, hT⟩ : ∃ T, txB (y :: r) 1 [] = T := ⟨_, rfl⟩
  have hRT : R = T.map fun p => (textV (strOfNums p.1), p.2) := by
    rw [← hR, ← hT]
    unfold txB
    simp only [List.drop_succ_cons, List.drop_zero, List.nil_append, Option.map_map]
    congr 1
    funext p
    simp; omega
  have hnl : n ≤ 1000000000001 := by rw [← hn]; simp; omega
  have FF : Hid (T = none → ∀ W, Gr w W → GoP w R (.returned (.agg #[.int .i64 0, .int .i64 0, .string ⟨#[]⟩, .bool false, .int .i64 0, .bool false])) W) := hid (fun h W hW => ⟨by rw [hRT, h]; rfl, hW⟩)
  have FS : Hid (∀ p, T = some p → ∀ W, Gr w W → GoP w R (.returned (.agg #[.int .i64 2, .int .i64 0, .string (strOfNums p.1), .bool false, .int .i64 (p.2 : Int), .bool true])) W) := hid (fun p h W hW => ⟨by rw [hRT, h]; rfl, hW⟩)
  have hbx0 : (w.alloc (.cells #[.int .i64 0, .int .i64 0, .string ⟨#[]⟩, .bool false, .int .i64 0, .bool false] 96)).heap[w.heap.size]? = some (.cells #[.int .i64 0, .int .i64 0, .string ⟨#[]⟩, .bool false, .int .i64 0, .bool false] 96 (0, 0)) := heap_alloc_new _ _
  have S0 : Hid (RxRel w (y :: r) T (.slice none 0 0) (.int .i64 1) (w.alloc (.cells #[.int .i64 0, .int .i64 0, .string ⟨#[]⟩, .bool false, .int .i64 0, .bool false] 96))) := hid ⟨1, [], rfl, Nat.le_refl _, by simp, by simp, World.ownsRow_nil _ _ _ _, hT, h0', hbx0⟩
  obtain ⟨l, hly⟩ : ∃ l, y :: r = l := ⟨_, rfl⟩
  rw [hly] at S0 HP hn
  have HLN := hid hn
  subst hy
  clear hR hp hn h0' hT hRT hbx0 hly hl
  go_enter Tryd.func59, Tryd.ntmps59
  go_wp2_with fail
  go_loopw [5, 6] (fun s5 s6 wr => RxRel w l T s5 s6 wr) (fun _ s6 _ => n - (intOf s6).toNat)
  case atStart => exact S0.out
  case round =>
    clear S0 c0 hbb
    obtain ⟨i, acc, rfl, hi1, hil, hal, hrow, heq, hg, hbx⟩ := hrel
    rw [HLN.out] at hil
    have HRW := hid hrow
    have HEQ := hid heq
    have hbz : w.heap.size < wr.heap.size := (Array.getElem?_eq_some_iff.1 hbx).1
    have hwb := hg.size
    obtain ⟨i0, hi0, hz0, hz1, hz2⟩ := info_parts b_info
    clear hrow heq
    by_cases hlt : i < n
    · have hll : i < l.length := by rw [HLN.out]; exact hlt
      obtain ⟨b', off', e', c0⟩ := b_get (HP.out.keep hg) i hll
      cases e'
      have hbb := lt_of_cell c0
      have k1 : decide ((n : Int) ≤ (i : Int)) = false := by rw [decide_eq_false_iff_not]; omega
      have k2 : (i : Int) < (n : Int) := by omega
      have k3 : (0 : Int) ≤ (i : Int) := by omega
      by_cases h0 : l[i] = 0
      · rw [h0] at c0
        by_cases h1 : i + 1 < n
        · have hl1 : i + 1 < l.length := by rw [HLN.out]; exact h1
          obtain ⟨b'', off'', e'', c1⟩ := b_get (HP.out.keep hg) (i + 1) hl1
          cases e''
          have HE := hid (txB_two (acc := acc) hl1 h0)
          rw [HEQ.out] at HE
          have k4 : ((i : Int) + 1 == (n : Int)) = false := by rw [beq_eq_false_iff_ne]; omega
          have k5 : (i : Int) + 1 < (n : Int) := by omega
          have k6 : (0 : Int) ≤ (i : Int) + 1 := by omega
          generalize l[i + 1] = z at *
          by_cases h2 : z = 255
          · subst h2
            have HE2 : Hid (txB l (i + 2) (acc ++ [0]) = T) := hid (by rw [HE.out, if_pos rfl])
            clear h0 HE HEQ hll hl1 FF FS
            go_wp2_with (at_builtin; refine wpList_append_own _ rfl _ _ 30 rfl w.heap.size 5 i0 (.int .u8 0) 1 1 Tryd.underlying30 hi0 hz0 hz1 hz2 rfl (by decide) _ _ _ rfl (HRW.out.alloc _) ⟨wr.heap.size, 0, none⟩ 1 1 (cellsF bF [0]) rfl rfl ?ma1 ?ma2 ?ma3 ?ma4 ?ma5 ?_)
            case ma1 =>
              intro q u hu
              rw [addN, Nat.zero_add, Rg.blk_cells (heap_alloc_new _ _) q]
              simpa [bF, cellsF] using hu
            case ma2 => exact bE.cells_one _
            case ma3 => unfold maxLen; omega
            case ma4 => omega
            case ma5 => first | omega | (simp; omega)
            intro v1 w3 hown hq8 _
            have hga := Gr.alloc (Gr.refl wr) (.cells #[.int .u8 0] 5)
            have G1 := Gz.up (hg.trans hga) hq8 (HRW.out.alloc _)
            have hbx3 : w3.heap[w.heap.size]? = some (.cells #[.int .i64 0, .int .i64 0, .string ⟨#[]⟩, .bool false, .int .i64 0, .bool false] 96 (0, 0)) := by
              have h1 : (wr.alloc (.cells #[.int .u8 0] 5)).heap[w.heap.size]? = some (.cells #[.int .i64 0, .int .i64 0, .string ⟨#[]⟩, .bool false, .int .i64 0, .bool false] 96 (0, 0)) := by rw [hga.block _ hbz]; exact hbx
              have hne := (show Ty 96 (wr.alloc (.cells #[.int .u8 0] 5)) w.heap.size from ⟨_, _, h1⟩).ne (HRW.out.alloc _) (by decide)
              rw [hq8.block _ (by simp; omega) (fun e => hne e.symm)]
              exact h1
            have FI : Hid (RxRel w l T v1 (.int .i64 ((i : Int) + 1 + 1)) w3) := hid ⟨i + 2, acc ++ [0], by go_num, by omega, by rw [HLN.out]; omega, by simp; omega, by rw [List.length_append, cellsF_append]; exact hown, HE2.out, G1, hbx3⟩
            clear hown hq8 G1 HE2 HRW HP hg hga hbx3 hbx
            go_wp2
            exact ⟨FI.out, by simp [intOf]; omega⟩
          · have q255 : (z == 255) = false := by simpa using h2
            have q255b : (z != 255) = true := by simpa using h2
            by_cases h3 : z = 0
            · subst h3
              have HE2 : Hid (T = some (acc, i + 2)) := hid (by rw [HE.out, if_neg h2, if_pos rfl])
              obtain ⟨ox, cx, rfl, hat, _⟩ := own_at0 bE HRW.out
              have cv := conv_b cx hat
              have FJ := hid (fun x0 x1 x2 x3 x4 x5 => FS.out _ HE2.out _ (hg.set6 (Nat.le_refl _) x0 x1 x2 x3 x4 x5))
              simp only at FJ
              generalize strOfNums acc = S at *
              have z0 := Rg.blk_cells hbx 0
              have f0 := Rg.blk_free hbx 0
              have z1 := Rg.blk_cells hbx 1
              have f1 := Rg.blk_free hbx 1
              have z2 := Rg.blk_cells hbx 2
              have f2 := Rg.blk_free hbx 2
              have z3 := Rg.blk_cells hbx 3
              have f3 := Rg.blk_free hbx 3
              have z4 := Rg.blk_cells hbx 4
              have f4 := Rg.blk_free hbx 4
              have z5 := Rg.blk_cells hbx 5
              have f5 := Rg.blk_free hbx 5
              simp only [List.getElem?_toArray, List.getElem?_cons_zero, List.getElem?_cons_succ] at z0 z1 z2 z3 z4 z5
              clear HEQ HRW HP FF FS hg hbx h0 HE h2 HE2 hat hll hl1
              go_wp2
              refine bodyPost_ret (by simp [results, Tryd.results59, go_sem, z0, z1, z2, z3, z4, z5]; try rfl) rfl (FJ.out _ _ _ _ _ _)
            · have q0 : (z == 0) = false := by simpa using h3
              have q0b : (z != 0) = true := by simpa using h3
              have HE2 : Hid (T = none) := hid (by rw [HE.out, if_neg h2, if_neg h3])
              clear h0 HE h2 h3 hll hl1
              have FJ := hid (fun x0 x1 x2 x3 x4 x5 => FF.out (by exact HE2.out) _ (hg.set6 (Nat.le_refl _) x0 x1 x2 x3 x4 x5))
              have z0 := Rg.blk_cells hbx 0
              have f0 := Rg.blk_free hbx 0
              have z1 := Rg.blk_cells hbx 1
              have f1 := Rg.blk_free hbx 1
              have z2 := Rg.blk_cells hbx 2
              have f2 := Rg.blk_free hbx 2
              have z3 := Rg.blk_cells hbx 3
              have f3 := Rg.blk_free hbx 3
              have z4 := Rg.blk_cells hbx 4
              have f4 := Rg.blk_free hbx 4
              have z5 := Rg.blk_cells hbx 5
              have f5 := Rg.blk_free hbx 5
              simp only [List.getElem?_toArray, List.getElem?_cons_zero, List.getElem?_cons_succ] at z0 z1 z2 z3 z4 z5
              clear HEQ HRW HP FF FS hg hbx
              go_wp2
              refine bodyPost_ret (by simp [results, Tryd.results59, go_sem, z0, z1, z2, z3, z4, z5]; try rfl) rfl (FJ.out _ _ _ _ _ _)
        · have HE2 : Hid (T = none) := hid (by rw [← HEQ.out]; exact txB_last hll h0 (by rw [HLN.out]; omega))
          have k4 : ((i : Int) + 1 == (n : Int)) = true := by rw [beq_iff_eq]; omega
          clear h0 h1 hll
          have FJ := hid (fun x0 x1 x2 x3 x4 x5 => FF.out (by exact HE2.out) _ (hg.set6 (Nat.le_refl _) x0 x1 x2 x3 x4 x5))
          have z0 := Rg.blk_cells hbx 0
          have f0 := Rg.blk_free hbx 0
          have z1 := Rg.blk_cells hbx 1
          have f1 := Rg.blk_free hbx 1
          have z2 := Rg.blk_cells hbx 2
          have f2 := Rg.blk_free hbx 2
          have z3 := Rg.blk_cells hbx 3
          have f3 := Rg.blk_free hbx 3
          have z4 := Rg.blk_cells hbx 4
          have f4 := Rg.blk_free hbx 4
          have z5 := Rg.blk_cells hbx 5
          have f5 := Rg.blk_free hbx 5
          simp only [List.getElem?_toArray, List.getElem?_cons_zero, List.getElem?_cons_succ] at z0 z1 z2 z3 z4 z5
          clear HEQ HRW HP FF FS hg hbx
          go_wp2
          refine bodyPost_ret (by simp [results, Tryd.results59, go_sem, z0, z1, z2, z3, z4, z5]; try rfl) rfl (FJ.out _ _ _ _ _ _)
      · have HE := hid (txB_one (acc := acc) hll h0)
        rw [HEQ.out] at HE
        have q0 : (l[i] != 0) = true := by simpa using h0
        generalize l[i] = z at *
        clear h0 HEQ hll FF FS
        go_wp2_with (at_builtin; refine wpList_append_own _ rfl _ _ 30 rfl w.heap.size 5 i0 (.int .u8 0) 1 1 Tryd.underlying30 hi0 hz0 hz1 hz2 rfl (by decide) _ _ _ rfl (HRW.out.alloc _) ⟨wr.heap.size, 0, none⟩ 1 1 (cellsF bF [z]) rfl rfl ?mb1 ?mb2 ?mb3 ?mb4 ?mb5 ?_)
        case mb1 =>
          intro q u hu
          rw [addN, Nat.zero_add, Rg.blk_cells (heap_alloc_new _ _) q]
          simpa [bF, cellsF] using hu
        case mb2 => exact bE.cells_one _
        case mb3 => unfold maxLen; omega
        case mb4 => omega
        case mb5 => first | omega | (simp; omega)
        intro v1 w3 hown hq8 _
        have hga := Gr.alloc (Gr.refl wr) (.cells #[.int .u8 z] 5)
        have G1 := Gz.up (hg.trans hga) hq8 (HRW.out.alloc _)
        have hbx3 : w3.heap[w.heap.size]? = some (.cells #[.int .i64 0, .int .i64 0, .string ⟨#[]⟩, .bool false, .int .i64 0, .bool false] 96 (0, 0)) := by
          have h1 : (wr.alloc (.cells #[.int .u8 z] 5)).heap[w.heap.size]? = some (.cells #[.int .i64 0, .int .i64 0, .string ⟨#[]⟩, .bool false, .int .i64 0, .bool false] 96 (0, 0)) := by rw [hga.block _ hbz]; exact hbx
          have hne := (show Ty 96 (wr.alloc (.cells #[.int .u8 z] 5)) w.heap.size from ⟨_, _, h1⟩).ne (HRW.out.alloc _) (by decide)
          rw [hq8.block _ (by simp; omega) (fun e => hne e.symm)]
          exact h1
        have FI : Hid (RxRel w l T v1 (.int .i64 ((i : Int) + 1)) w3) := hid ⟨i + 1, acc ++ [z], by go_num, by omega, by rw [HLN.out]; omega, by simp; omega, by rw [List.length_append, cellsF_append]; exact hown, HE.out.symm, G1, hbx3⟩
        clear hown hq8 G1 HE HRW HP hg hga hbx3 hbx
        go_wp2
        exact ⟨FI.out, by simp [intOf]; omega⟩
    · have k1 : decide ((n : Int) ≤ (i : Int)) = true := by rw [decide_eq_true_iff]; omega
      have HE2 : Hid (T = none) := hid (by rw [← HEQ.out]; exact txB_end (by rw [HLN.out]; omega))
      have FJ := hid (fun x0 x1 x2 x3 x4 x5 => FF.out (by exact HE2.out) _ (hg.set6 (Nat.le_refl _) x0 x1 x2 x3 x4 x5))
      have z0 := Rg.blk_cells hbx 0
      have f0 := Rg.blk_free hbx 0
      have z1 := Rg.blk_cells hbx 1
      have f1 := Rg.blk_free hbx 1
      have z2 := Rg.blk_cells hbx 2
      have f2 := Rg.blk_free hbx 2
      have z3 := Rg.blk_cells hbx 3
      have f3 := Rg.blk_free hbx 3
      have z4 := Rg.blk_cells hbx 4
      have f4 := Rg.blk_free hbx 4
      have z5 := Rg.blk_cells hbx 5
      have f5 := Rg.blk_free hbx 5
      simp only [List.getElem?_toArray, List.getElem?_cons_zero, List.getElem?_cons_succ] at z0 z1 z2 z3 z4 z5
      clear HEQ HRW HP FF FS hg hbx
      go_wp2
      refine bodyPost_ret (by simp [results, Tryd.results59, go_sem, z0, z1, z2, z3, z4, z5]; try rfl) rfl (FJ.out _ _ _ _ _ _)
/-- the reference's Decode -/
theorem rdc_any (ol : Option Addr) (cl : Nat) (l : List Int) (w : World) (hp : BAt w ol l) (hb : byteI l) (hl : l.length ≤ 1000000000000) : Calls Tryd.prog 59 #[.slice ol l.length cl] w (GoP w (decV l)) := by
  match l, hp, hb, hl with
  | [], hp, hb, hl => exact rdc_nil ol cl w
  | y :: r, hp, hb, hl =>
    have hbr : byteI r := fun x hx => hb x (by simp [hx])
    have hrl : r.length ≤ 1000000000000 := by simp at hl; omega
    simp only [decV]
    by_cases h0 : y = 0
    · rw [if_pos h0]; exact rdc_zero ol cl y r w hp h0
    · rw [if_neg h0]
      by_cases h1 : y = 1
      · rw [if_pos h1]
        by_cases h8 : 8 ≤ r.length
        · rw [if_pos h8]; exact rdc_num ol cl y r w hp hbr h1 h8
        · rw [if_neg h8]; exact rdc_short ol cl y r w hp h1 h8
      · rw [if_neg h1]
        by_cases h2 : y = 2
        · rw [if_pos h2]; exact rdc_text ol cl y r w hp hrl h2
        · rw [if_neg h2]
          by_cases h3 : y = 3
          · rw [if_pos h3]
            match r, hp with
            | [], hp => exact rdc_bool0 ol cl y w hp h3
            | c :: r', hp => exact rdc_bool ol cl y c r' w hp h3
          · rw [if_neg h3]; exact rdc_else ol cl y r w hp h0 h1 h2 h3
end Go.Proofs.YtacbhkmkknicoaaDoor
