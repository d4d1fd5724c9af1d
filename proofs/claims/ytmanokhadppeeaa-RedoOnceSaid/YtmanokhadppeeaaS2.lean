/- redo: a stable sort in place, at most 19 long. (By mkS2.py.) -/
import Derived.Test.YtmanokhadppeeaaS1
import Derived.Test.YtmanokhadppeeaaRt
namespace Go.Proofs.Ytmanokhadppeeaa
open Go.RowKit
set_option linter.unusedSimpArgs false
set_option linter.unusedVariables false
attribute [local go_sem] Rg.leads_value Rg.leads_skip Rg.leads_enter Rg.brings_value Rg.brings_skip Rg.brings_enter
def cmpI (a b : Int) : Int := if a < b then -1 else if b < a then 1 else 0
theorem cmpI_lt (a b : Int) : decide (cmpI a b < 0) = decide (a < b) := by
  unfold cmpI
  by_cases h1 : a < b
  · simp [h1]
  · rw [if_neg h1]
    by_cases h2 : b < a
    · rw [if_pos h2]; simp; omega
    · rw [if_neg h2]; simp; omega
theorem isNaN_any (a : Int) (w : World) : Calls Try.prog 47 #[.int .i64 a] w fun e w' => e = .returned (.bool false) ∧ w' = w := by
  have h : (a != a) = false := by simp
  go_enter Try.func47, Try.ntmps47
  go_wp2
  go_ret
  exact ⟨rfl, rfl⟩
theorem compare_any (a b : Int) (w : World) : Calls Try.prog 26 #[.int .i64 a, .int .i64 b] w fun e w' => e = .returned (.int .i64 (cmpI a b)) ∧ w' = w := by
  have N1 := fun W => isNaN_any a W
  have N2 := fun W => isNaN_any b W
  by_cases h1 : a < b
  · have hR : Hid (cmpI a b = -1) := hid (by unfold cmpI; rw [if_pos h1])
    go_enter Try.func26, Try.ntmps26
    go_wp2_with fail
    refine (N1 _).mono ?_
    rintro e w' ⟨rfl, rfl⟩
    go_wp2_with fail
    refine (N2 _).mono ?_
    rintro e w' ⟨rfl, rfl⟩
    go_wp2
    go_ret
    exact ⟨by rw [hR.out]; rfl, rfl⟩
  · by_cases h2 : b < a
    · have hR : Hid (cmpI a b = 1) := hid (by unfold cmpI; rw [if_neg h1, if_pos h2])
      go_enter Try.func26, Try.ntmps26
      go_wp2_with fail
      refine (N1 _).mono ?_
      rintro e w' ⟨rfl, rfl⟩
      go_wp2_with fail
      refine (N2 _).mono ?_
      rintro e w' ⟨rfl, rfl⟩
      go_wp2
      go_ret
      exact ⟨by rw [hR.out]; rfl, rfl⟩
    · have hR : Hid (cmpI a b = 0) := hid (by unfold cmpI; rw [if_neg h1, if_neg h2])
      go_enter Try.func26, Try.ntmps26
      go_wp2_with fail
      refine (N1 _).mono ?_
      rintro e w' ⟨rfl, rfl⟩
      go_wp2_with fail
      refine (N2 _).mono ?_
      rintro e w' ⟨rfl, rfl⟩
      go_wp2
      go_ret
      exact ⟨by rw [hR.out]; rfl, rfl⟩
/-- a place sinks as long as it is smaller than the one ahead of it -/
def siftF {α : Type} (key : α → Int) : Nat → List α → List α
  | 0, l => l
  | j + 1, l => match l[j + 1]?, l[j]? with
    | some x, some y => if key x < key y then siftF key j ((l.set (j + 1) y).set j x) else l
    | _, _ => l
def sortFrom {α : Type} (key : α → Int) : Nat → Nat → List α → List α
  | 0, _, l => l
  | f + 1, i, l => sortFrom key f (i + 1) (siftF key i l)
def sortF {α : Type} (key : α → Int) (l : List α) : List α := sortFrom key (l.length - 1) 1 l
theorem sift_len {α : Type} (key : α → Int) : ∀ (j : Nat) (l : List α), (siftF key j l).length = l.length
  | 0, _ => rfl
  | j + 1, l => by
    unfold siftF
    split
    · split
      · rw [sift_len key j]; simp
      · rfl
    · rfl
theorem sift_step {α : Type} {key : α → Int} {j : Nat} {l : List α} (h : j + 1 < l.length) : siftF key (j + 1) l = if key l[j + 1] < key l[j] then siftF key j ((l.set (j + 1) l[j]).set j l[j + 1]) else l := by
  conv => lhs; unfold siftF
  rw [List.getElem?_eq_getElem h, List.getElem?_eq_getElem (by omega : j < l.length)]
theorem sort_step {α : Type} (key : α → Int) (f i : Nat) (l : List α) : sortFrom key (f + 1) i l = sortFrom key f (i + 1) (siftF key i l) := rfl
theorem sort_len {α : Type} (key : α → Int) : ∀ (f i : Nat) (l : List α), (sortFrom key f i l).length = l.length
  | 0, _, _ => rfl
  | f + 1, i, l => by unfold sortFrom; rw [sort_len key f, sift_len]
/-- all but a row of one's own stand -/
def Gz (v : Value) (w w' : World) : Prop := w.grownBy w' v.ownBlock
theorem Gz.of {v : Value} {w w' : World} (h : Gr w w') : Gz v w w' := h.only _
theorem Gz.refl (v : Value) (w : World) : Gz v w w := .of (Gr.refl w)
theorem Gz.trans {v : Value} {a b c : World} (h : Gz v a b) (k : Gz v b c) : Gz v a c :=
  ⟨k.os.trans h.os, k.tape.trans h.tape, k.output.trans h.output, Nat.le_trans h.size k.size, fun i hi hne => (k.block i (Nat.lt_of_lt_of_le hi h.size) hne).trans (h.block i hi hne)⟩
theorem Gz.gr {v : Value} {a b c : World} (h : Gz v a b) (k : Gr b c) : Gz v a c := h.trans (.of k)
theorem own_gr {w w' : World} {base n e m : Nat} {v : Value} {zs : List Value} (h : w.ownsRow base e m v n zs) (hg : Gr w w') : w'.ownsRow base e m v n zs := own_keep h hg

theorem tcmp (x y : Tx) (w : World) : Calls Try.prog 25 #[.agg #[.int .i64 x.id, .int .i64 x.last, .int .i64 x.st], .agg #[.int .i64 y.id, .int .i64 y.last, .int .i64 y.st]] w fun e w' => e = .returned (.int .i64 (cmpI x.id y.id)) ∧ Gr w w' := by
  have C := fun W => compare_any x.id y.id W
  generalize cmpI x.id y.id = R at *
  go_enter Try.func25, Try.ntmps25
  go_wp2_with fail
  refine (C _).mono ?_
  rintro e w' ⟨rfl, rfl⟩
  go_wp2
  go_ret
  exact ⟨rfl, ((Gr.refl w).alloc _).alloc _⟩
abbrev tOwn (w : World) (base g cap : Nat) (l : List Tx) : Prop := w.ownsRow base 53 3 (.slice (some ⟨g, 0, none⟩) l.length cap) l.length (cellsF tF l)
theorem tput {w : World} {base g cap : Nat} {l : List Tx} (h : tOwn w base g cap l) (k : Nat) (hk : k < l.length) (x : Tx) :
    tOwn (((w.setCell ⟨g, k * 3, none⟩ (.int .i64 x.id)).setCell ⟨g, k * 3 + 1, none⟩ (.int .i64 x.last)).setCell ⟨g, k * 3 + 2, none⟩ (.int .i64 x.st)) base g cap (l.set k x) ∧ w.grownBy (((w.setCell ⟨g, k * 3, none⟩ (.int .i64 x.id)).setCell ⟨g, k * 3 + 1, none⟩ (.int .i64 x.last)).setCell ⟨g, k * 3 + 2, none⟩ (.int .i64 x.st)) (some g) := by
  have e0 := tE.cells_set (l) k (⟨x.id, l[k].last, l[k].st⟩ : Tx) 0 (.int .i64 x.id) hk (by omega) (by simp [tF])
  have e1 := tE.cells_set ((l).set k (⟨x.id, l[k].last, l[k].st⟩ : Tx)) k (⟨x.id, x.last, l[k].st⟩ : Tx) 1 (.int .i64 x.last) (by simpa using hk) (by omega) (by simp [tF])
  have e2 := tE.cells_set (((l).set k (⟨x.id, l[k].last, l[k].st⟩ : Tx)).set k (⟨x.id, x.last, l[k].st⟩ : Tx)) k x 2 (.int .i64 x.st) (by simpa using hk) (by omega) (by simp [tF])
  obtain ⟨s0, g0⟩ := h.stored (k * 3 + 0) (.int .i64 x.id)
  obtain ⟨s1, g1⟩ := s0.stored (k * 3 + 1) (.int .i64 x.last)
  obtain ⟨s2, g2⟩ := s1.stored (k * 3 + 2) (.int .i64 x.st)
  rw [e1, e0] at e2
  simp only [List.set_set] at e2
  rw [← e2] at s2
  simp only [Nat.add_zero] at s2 g0 g1 g2
  have tr : ∀ {a b c : World}, a.grownBy b (some g) → b.grownBy c (some g) → a.grownBy c (some g) := fun g1 g2 => ⟨g2.os.trans g1.os, g2.tape.trans g1.tape, g2.output.trans g1.output, Nat.le_trans g1.size g2.size, fun i hi hne => (g2.block i (Nat.lt_of_lt_of_le hi g1.size) hne).trans (g1.block i hi hne)⟩
  refine ⟨?_, tr (tr g0 g1) g2⟩
  have el : (l.set k x).length = l.length := List.length_set
  unfold tOwn
  rw [el]
  exact s2
set_option maxHeartbeats 4000000 in
set_option maxRecDepth 100000 in
theorem tswap {w : World} {base g cap : Nat} {l : List Tx} (h : tOwn w base g cap l) (j : Nat) (hj : j + 1 < l.length) (x y : Tx) :
    tOwn ((((((w.setCell ⟨g, (j + 1) * 3, none⟩ (.int .i64 y.id)).setCell ⟨g, (j + 1) * 3 + 1, none⟩ (.int .i64 y.last)).setCell ⟨g, (j + 1) * 3 + 2, none⟩ (.int .i64 y.st)).setCell ⟨g, j * 3, none⟩ (.int .i64 x.id)).setCell ⟨g, j * 3 + 1, none⟩ (.int .i64 x.last)).setCell ⟨g, j * 3 + 2, none⟩ (.int .i64 x.st)) base g cap ((l.set (j + 1) y).set j x) ∧ w.grownBy ((((((w.setCell ⟨g, (j + 1) * 3, none⟩ (.int .i64 y.id)).setCell ⟨g, (j + 1) * 3 + 1, none⟩ (.int .i64 y.last)).setCell ⟨g, (j + 1) * 3 + 2, none⟩ (.int .i64 y.st)).setCell ⟨g, j * 3, none⟩ (.int .i64 x.id)).setCell ⟨g, j * 3 + 1, none⟩ (.int .i64 x.last)).setCell ⟨g, j * 3 + 2, none⟩ (.int .i64 x.st)) (some g) := by
  obtain ⟨h1, g1⟩ := tput h (j + 1) hj y
  have e : (l.set (j + 1) y).length = l.length := by simp
  obtain ⟨h2, g2⟩ := tput h1 j (by rw [e]; omega) x
  exact ⟨h2, ⟨g2.os.trans g1.os, g2.tape.trans g1.tape, g2.output.trans g1.output, Nat.le_trans g1.size g2.size, fun i hi hne => (g2.block i (Nat.lt_of_lt_of_le hi g1.size) hne).trans (g1.block i hi hne)⟩⟩
def tRel (w : World) (base g cap : Nat) (R : List Tx) (n : Nat) (s8 : Value) (wr : World) : Prop :=
  ∃ (i : Nat) (m : List Tx), s8 = .int .i64 i ∧ 1 ≤ i ∧ i ≤ n ∧ m.length = n ∧ tOwn wr base g cap m ∧ Gz (.slice (some ⟨g, 0, none⟩) n cap) w wr ∧ sortFrom (fun x : Tx => x.id) (n - i) i m = R
def tRel2 (w : World) (base g cap : Nat) (T : List Tx) (n i : Nat) (s9 : Value) (wr : World) : Prop :=
  ∃ (j : Nat) (m : List Tx), s9 = .int .i64 j ∧ j ≤ i ∧ m.length = n ∧ tOwn wr base g cap m ∧ Gz (.slice (some ⟨g, 0, none⟩) n cap) w wr ∧ siftF (fun x : Tx => x.id) j m = T
set_option maxHeartbeats 4000000 in
set_option maxRecDepth 100000 in
theorem tinsert (base g cap : Nat) (l : List Tx) (w : World) (h2 : 1 ≤ l.length) (hl : l.length ≤ 1000000) (ho : tOwn w base g cap l) :
    Calls Try.prog 49 #[.slice (some ⟨g, 0, none⟩) l.length cap, .int .i64 0, .int .i64 l.length, .func (.func 25) #[] #[]] w fun e w' => e = .returned (.tuple #[]) ∧ tOwn w' base g cap (sortF (fun x => x.id) l) ∧ Gz (.slice (some ⟨g, 0, none⟩) l.length cap) w w' := by
  obtain ⟨R, hR⟩ : ∃ R, sortFrom (fun x : Tx => x.id) (l.length - 1) 1 l = R := ⟨_, rfl⟩
  have hRR : sortF (fun x : Tx => x.id) l = R := hR
  rw [hRR]
  have hlr : R.length = l.length := by rw [← hR, sort_len]
  have h0 : tRel w base g cap R l.length (.int .i64 1) w := ⟨1, l, rfl, by omega, h2, rfl, ho, Gz.refl _ _, hR⟩
  generalize l.length = n at *
  clear hR hRR ho
  go_enter Try.func49, Try.ntmps49
  go_wp2_with fail
  go_loopw [8] (fun s8 wr => tRel w base g cap R n s8 wr) (fun s8 _ => n - (intOf s8).toNat)
  case atStart => exact h0
  case round =>
    obtain ⟨i, m, rfl, hi1, hin, hml, hO, hG, hS⟩ := hrel
    have HS := hid hS
    have HO := hid hO
    have HG := hid hG
    clear hS hO hG
    by_cases hlt : i < n
    · obtain ⟨T, hT⟩ : ∃ T, siftF (fun x : Tx => x.id) i m = T := ⟨_, rfl⟩
      have hTl : Hid (T.length = n) := hid (by rw [← hT, sift_len, hml])
      have HN : Hid (sortFrom (fun x : Tx => x.id) (n - (i + 1)) (i + 1) T = R) := hid (by
        rw [← HS.out, show n - i = (n - (i + 1)) + 1 by omega]
        rw [sort_step, hT])
      have h1 : tRel2 w base g cap T n i (.int .i64 i) wr := ⟨i, m, rfl, Nat.le_refl _, hml, HO.out, HG.out, hT⟩
      clear hT HS HO HG hml
      go_wp2_with fail
      go_loopw [9] (fun s9 wq => tRel2 w base g cap T n i s9 wq) (fun s9 _ => (intOf s9).toNat)
      case atStart => exact h1
      case round =>
        obtain ⟨j, m, rfl, hji, hml, hO, hG, hS⟩ := hrel
        have HS := hid hS
        have HG := hid hG
        clear hS hG
        cases j with
        | zero =>
          have HO := hid hO
          clear hO
          have HT : Hid (m = T) := hid HS.out
          clear HS
          go_wp2_with fail
          refine Rg.region_plan 16 [0, 1, 2, 3, 4, 5, 6, 7, 8, 9, 10, 11, 12, 13, 14, 15] [] [] (Below.drew (Below.refl _ _)) (by kernel_rfl) (by kernel_rfl) (fun _ _ d _ _ h => by cases d <;> exact h) ?_
          simp only [Rg.opsAt, List.append_eq, List.cons_append, List.nil_append, List.filterMap_cons, List.filterMap_nil, List.getElem?_toArray, List.getElem?_cons_zero, List.getElem?_cons_succ, List.drop_succ_cons, List.drop_zero]
          repeat (first
              | (refine Rg.wpDets_skip (by rfl) ?_; simp only [Act.put, List.setIfInBounds_toArray, List.set_cons_zero, List.set_cons_succ])
              | (refine Rg.wpDets_step ?_ (by rfl) (fun w hS => ?_) ?_
                 rotate_left
                 · have hc := Gr.cells hS
                   have hf := Gr.frees hS
                   go_simp
                   first
                   | (refine ⟨?_, Below.refl _ _⟩; with_reducible rfl)
                 simp only [Act.put, List.setIfInBounds_toArray, List.set_cons_zero, List.set_cons_succ]))
          refine Rg.wpDets_nil ?_
          refine Rg.wpFlts_nil ?_
          refine Rg.wpLays_nil ?_
          intro w' hK
          have hg : Gr _ w' := hK.up
          have hc := hg.cells
          have hf := hg.frees
          have hz := hg.size
          try simp only [World.size_alloc, World.size_setCell, World.size_drew] at hz
          try have : 0 < w'.heap.size := by omega
          try have : w.heap.size < w'.heap.size := by omega
          try have : w.heap.size + 1 < w'.heap.size := by omega
          try have : w.heap.size + 1 + 1 < w'.heap.size := by omega
          try have : w.heap.size + 1 + 1 + 1 < w'.heap.size := by omega
          go_wp2
          refine ⟨⟨i + 1, T, by go_num, by omega, by omega, hTl.out, ?_, HG.out.gr hK.up, HN.out⟩, by simp [intOf]; omega⟩
          rw [← HT.out]
          exact own_gr HO.out hK.up
        | succ j =>
          have hjn : j + 1 < m.length := by omega
          obtain ⟨oa, c, e0, hat, _, _⟩ := own_at tE hO
          cases e0
          obtain ⟨b1, o1, e1, c0, c1, c2⟩ := t_get hat (j + 1) hjn
          cases e1
          obtain ⟨b2, o2, e2, d0, d1, d2⟩ := t_get hat j (by omega)
          cases e2
          have hzg := lt_of_cell c0
          have HS2 := HS.out
          rw [sift_step hjn] at HS2
          have HO2 := fun w' (hg : Gr wr w') => tswap (own_gr hO hg) j hjn m[j + 1] m[j]
          have HF := fun w' (hg : Gr wr w') k => (own_gr hO hg).frozenAt k
          have HHO := hid hO
          have HHO2 := hid HO2
          simp only [Nat.zero_add] at c0 c1 c2 d0 d1 d2
          generalize m[j + 1] = x at *
          generalize m[j] = y at *
          have C := fun W => tcmp x y W
          have gk1 : decide ((n : Int) ≤ (j : Int) + 1) = false := by rw [decide_eq_false_iff_not]; omega
          have gk4 : decide (n ≤ j + 1) = false := by rw [decide_eq_false_iff_not]; omega
          have gk2 : decide ((n : Int) ≤ (j : Int)) = false := by rw [decide_eq_false_iff_not]; omega
          have gk5 : decide (n ≤ j) = false := by rw [decide_eq_false_iff_not]; omega
          have gq1 : (0 : Int) ≤ (j : Int) + 1 := by omega
          have gq2 : (j : Int) + 1 < (n : Int) := by omega
          have gq3 : (j : Int) < (n : Int) := by omega
          have hw2 : IntKind.i64.wrap (j : Int) = (j : Int) := by rw [IntKind.wrap_i64]; omega
          have gk6 : ((j + 1 : Nat) : Int) = (j : Int) + 1 := by omega
          have gk3 : decide ((0 : Int) < (j : Int) + 1) = true := by rw [decide_eq_true_eq]; omega
          have hw1 : wrap64 ((j : Int) + 1 - 1) = (j : Int) := by unfold wrap64; omega
          have hlt2 := cmpI_lt x.id y.id
          obtain ⟨bb, hbb⟩ : ∃ b, decide (x.id < y.id) = b := ⟨_, rfl⟩
          rw [hbb] at hlt2
          have HS3 : Hid ((if bb = true then siftF (fun x : Tx => x.id) j ((m.set (j + 1) y).set j x) else m) = T) := hid (by
            rw [← HS2, ← hbb]
            simp only [decide_eq_true_eq])
          clear HS2 hbb HO2 hat hO HS
          have HFF := hid HF
          have hj0 : ¬ (j * 3 = (j + 1) * 3) := by omega
          go_wp2_with fail
          refine Rg.region_plan 16 [0, 1, 2, 3, 4, 5, 6, 7, 8, 9, 10, 11, 12, 13, 14, 15] [] [] (Below.drew (Below.refl _ _)) (by kernel_rfl) (by kernel_rfl) (fun _ _ d _ _ h => by cases d <;> exact h) ?_
          simp only [Rg.opsAt, List.append_eq, List.cons_append, List.nil_append, List.filterMap_cons, List.filterMap_nil, List.getElem?_toArray, List.getElem?_cons_zero, List.getElem?_cons_succ, List.drop_succ_cons, List.drop_zero]
          repeat (first
              | (refine Rg.wpDets_skip (by rfl) ?_; simp only [Act.put, List.setIfInBounds_toArray, List.set_cons_zero, List.set_cons_succ])
              | (refine Rg.wpDets_step ?_ (by rfl) (fun w hS => ?_) ?_
                 rotate_left
                 · have hc := Gr.cells hS
                   have hf := Gr.frees hS
                   go_simp
                   first
                   | (refine ⟨?_, Below.refl _ _⟩; with_reducible rfl)
                   | ((with_reducible refine (C _).mono ?_); rintro e w' ⟨rfl, hg⟩; refine ⟨?_, hg⟩; with_reducible rfl)
                 simp only [Act.put, List.setIfInBounds_toArray, List.set_cons_zero, List.set_cons_succ]))
          refine Rg.wpDets_nil ?_
          refine Rg.wpFlts_nil ?_
          refine Rg.wpLays_nil ?_
          intro w' hK
          have hg : Gr _ w' := hK.up
          have hc := hg.cells
          have hf := hg.frees
          have hz := hg.size
          try simp only [World.size_alloc, World.size_setCell, World.size_drew] at hz
          try have : 0 < w'.heap.size := by omega
          try have : w.heap.size < w'.heap.size := by omega
          try have : w.heap.size + 1 < w'.heap.size := by omega
          try have : w.heap.size + 1 + 1 < w'.heap.size := by omega
          try have : w.heap.size + 1 + 1 + 1 < w'.heap.size := by omega
          cases bb
          · have HT : Hid (m = T) := hid (by have := HS3.out; simpa using this)
            clear HS3
            go_wp2
            refine ⟨⟨i + 1, T, by go_num, by omega, by omega, hTl.out, ?_, HG.out.gr hK.up, HN.out⟩, by simp [intOf]; omega⟩
            rw [← HT.out]
            exact own_gr HHO.out hg
          · have HT : Hid (siftF (fun x : Tx => x.id) j ((m.set (j + 1) y).set j x) = T) := hid (by have := HS3.out; simpa using this)
            clear HS3
            have c0 := hg.keep c0
            have d0 := hg.keep d0
            have c1 := hg.keep c1
            have d1 := hg.keep d1
            have c2 := hg.keep c2
            have d2 := hg.keep d2
            have fc0 := HFF.out _ hg ((j + 1) * 3)
            have fd0 := HFF.out _ hg (j * 3)
            have fc1 := HFF.out _ hg ((j + 1) * 3 + 1)
            have fd1 := HFF.out _ hg (j * 3 + 1)
            have fc2 := HFF.out _ hg ((j + 1) * 3 + 2)
            have fd2 := HFF.out _ hg (j * 3 + 2)
            have HUP := hid hg
            have zg : g < w'.heap.size := Nat.lt_of_lt_of_le hzg hg.size
            clear hK hc hf hg hz C
            go_wp2_with fail
            go_region
            have hsw := HHO2.out w' HUP.out
            have hO3 := hid (World.ownsRow.drew hsw.1)
            have hG3 := hid (((HG.out.gr HUP.out).trans hsw.2).gr (Gr.drew (Gr.refl _)))
            clear hsw fc0 fd0 c0 d0 c1 d1 c2 d2
            go_wp2
            refine ⟨⟨j, (m.set (j + 1) y).set j x, by go_num, by omega, by simp; omega, hO3.out, hG3.out, HT.out⟩, by simp [intOf]⟩
    · obtain rfl : i = n := by omega
      have hmR : Hid (m = R) := hid (by have := HS.out; rw [Nat.sub_self] at this; exact this)
      clear HS
      go_wp2
      refine bodyPost_end (v := .tuple #[]) (by simp [results, Try.results49, go_sem]) rfl ⟨rfl, ?_, HG.out⟩
      rw [← hmR.out]
      exact HO.out
set_option maxHeartbeats 4000000 in
set_option maxRecDepth 100000 in
theorem tstable (base g cap : Nat) (l : List Tx) (w : World) (h2 : 1 ≤ l.length) (hl : l.length ≤ 19) (ho : tOwn w base g cap l) :
    Calls Try.prog 46 #[.slice (some ⟨g, 0, none⟩) l.length cap, .int .i64 l.length, .func (.func 25) #[] #[]] w fun e w' => e = .returned (.tuple #[]) ∧ tOwn w' base g cap (sortF (fun x => x.id) l) ∧ Gz (.slice (some ⟨g, 0, none⟩) l.length cap) w w' := by
  have I := tinsert base g cap l w h2 (by omega) ho
  generalize sortF (fun x : Tx => x.id) l = R at *
  generalize l.length = n at *
  have g1 : decide ((20 : Int) ≤ (n : Int)) = false := by rw [decide_eq_false_iff_not]; omega
  have g2 : decide ((20 : Int) < (n : Int)) = false := by rw [decide_eq_false_iff_not]; omega
  have g3 : decide ((20 : Nat) ≤ n) = false := by rw [decide_eq_false_iff_not]; omega
  have g4 : decide ((20 : Nat) < n) = false := by rw [decide_eq_false_iff_not]; omega
  clear ho
  go_enter Try.func46, Try.ntmps46
  go_wp2_with fail
  go_loopw [7, 8] (fun s7 s8 wr => s7 = .int .i64 0 ∧ s8 = .int .i64 20 ∧ wr = w) (fun _ _ _ => 0)
  case atStart => exact ⟨rfl, rfl, rfl⟩
  case round =>
    obtain ⟨rfl, rfl, rfl⟩ := hrel
    go_wp2_with fail
    refine I.mono ?_
    rintro e w1 ⟨rfl, h1, hg⟩
    go_wp2_with fail
    go_loopw [6] (fun s6 wr => s6 = .int .i64 20 ∧ wr = w1) (fun _ _ => 0)
    case atStart => exact ⟨rfl, rfl⟩
    case round =>
      obtain ⟨rfl, rfl⟩ := hrel
      go_wp2
      refine bodyPost_end (v := .tuple #[]) (by simp [results, Try.results46, go_sem]) rfl ⟨rfl, h1, hg⟩
theorem tinsert0 (oa : Option Addr) (c : Nat) (w : World) : Calls Try.prog 49 #[.slice oa 0 c, .int .i64 0, .int .i64 0, .func (.func 25) #[] #[]] w fun e w' => e = .returned (.tuple #[]) ∧ w' = w := by
  go_enter Try.func49, Try.ntmps49
  go_wp2_with fail
  go_loopw [8] (fun s8 wr => s8 = .int .i64 1 ∧ wr = w) (fun _ _ => 0)
  case atStart => exact ⟨rfl, rfl⟩
  case round =>
    obtain ⟨rfl, rfl⟩ := hrel
    go_wp2
    refine bodyPost_end (v := .tuple #[]) (by simp [results, Try.results49, go_sem]) rfl ⟨rfl, rfl⟩
theorem tstable0 (oa : Option Addr) (c : Nat) (w : World) : Calls Try.prog 46 #[.slice oa 0 c, .int .i64 0, .func (.func 25) #[] #[]] w fun e w' => e = .returned (.tuple #[]) ∧ w' = w := by
  have I := tinsert0 oa c w
  go_enter Try.func46, Try.ntmps46
  go_wp2_with fail
  go_loopw [7, 8] (fun s7 s8 wr => s7 = .int .i64 0 ∧ s8 = .int .i64 20 ∧ wr = w) (fun _ _ _ => 0)
  case atStart => exact ⟨rfl, rfl, rfl⟩
  case round =>
    obtain ⟨rfl, rfl, rfl⟩ := hrel
    go_wp2_with fail
    refine I.mono ?_
    rintro e w1 ⟨rfl, rfl⟩
    go_wp2_with fail
    go_loopw [6] (fun s6 wr => s6 = .int .i64 20 ∧ wr = w1) (fun _ _ => 0)
    case atStart => exact ⟨rfl, rfl⟩
    case round =>
      obtain ⟨rfl, rfl⟩ := hrel
      go_wp2
      refine bodyPost_end (v := .tuple #[]) (by simp [results, Try.results46, go_sem]) rfl ⟨rfl, rfl⟩
theorem tsort (base : Nat) (v : Value) (l : List Tx) (w : World) (hl : l.length ≤ 19) (ho : w.ownsRow base 53 3 v l.length (cellsF tF l)) :
    Calls Try.prog 24 #[v, .func (.func 25) #[] #[]] w fun e w' => e = .returned (.tuple #[]) ∧ w'.ownsRow base 53 3 v (sortF (fun x => x.id) l).length (cellsF tF (sortF (fun x => x.id) l)) ∧ Gz v w w' := by
  by_cases h0 : l.length = 0
  · have hnil : l = [] := List.eq_nil_of_length_eq_zero h0
    subst hnil
    obtain ⟨oa, c, rfl, _, _, _⟩ := own_at tE ho
    have I := tstable0 oa c w
    have ho2 := hid ho
    clear ho
    simp only [List.length_nil] at *
    go_enter Try.func24, Try.ntmps24
    go_wp2_with fail
    refine I.mono ?_
    rintro e w1 ⟨rfl, rfl⟩
    go_wp2
    refine bodyPost_end (v := .tuple #[]) (by simp [results, Try.results24, go_sem]) rfl ⟨rfl, ho2.out, Gz.refl _ _⟩
  · obtain ⟨g, cap, rfl, _, _, _⟩ := own_form ho (by omega)
    have I := tstable base g cap l w (by omega) hl ho
    have hlen : (sortF (fun x : Tx => x.id) l).length = l.length := sort_len _ _ _ _
    unfold tOwn at I
    rw [hlen] at I ⊢
    generalize sortF (fun x : Tx => x.id) l = R at *
    generalize l.length = n at *
    clear ho
    go_enter Try.func24, Try.ntmps24
    go_wp2_with fail
    refine I.mono ?_
    rintro e w1 ⟨rfl, h1, hg⟩
    go_wp2
    refine bodyPost_end (v := .tuple #[]) (by simp [results, Try.results24, go_sem]) rfl ⟨rfl, h1, hg⟩

theorem dcmp (x y : Dy) (w : World) : Calls Try.prog 28 #[.agg #[.int .i64 x.page, .int .i64 x.lsn], .agg #[.int .i64 y.page, .int .i64 y.lsn]] w fun e w' => e = .returned (.int .i64 (cmpI x.page y.page)) ∧ Gr w w' := by
  have C := fun W => compare_any x.page y.page W
  generalize cmpI x.page y.page = R at *
  go_enter Try.func28, Try.ntmps28
  go_wp2_with fail
  refine (C _).mono ?_
  rintro e w' ⟨rfl, rfl⟩
  go_wp2
  go_ret
  exact ⟨rfl, ((Gr.refl w).alloc _).alloc _⟩
abbrev dOwn (w : World) (base g cap : Nat) (l : List Dy) : Prop := w.ownsRow base 36 2 (.slice (some ⟨g, 0, none⟩) l.length cap) l.length (cellsF dF l)
theorem dput {w : World} {base g cap : Nat} {l : List Dy} (h : dOwn w base g cap l) (k : Nat) (hk : k < l.length) (x : Dy) :
    dOwn ((w.setCell ⟨g, k * 2, none⟩ (.int .i64 x.page)).setCell ⟨g, k * 2 + 1, none⟩ (.int .i64 x.lsn)) base g cap (l.set k x) ∧ w.grownBy ((w.setCell ⟨g, k * 2, none⟩ (.int .i64 x.page)).setCell ⟨g, k * 2 + 1, none⟩ (.int .i64 x.lsn)) (some g) := by
  have e0 := dE.cells_set (l) k (⟨x.page, l[k].lsn⟩ : Dy) 0 (.int .i64 x.page) hk (by omega) (by simp [dF])
  have e1 := dE.cells_set ((l).set k (⟨x.page, l[k].lsn⟩ : Dy)) k x 1 (.int .i64 x.lsn) (by simpa using hk) (by omega) (by simp [dF])
  obtain ⟨s0, g0⟩ := h.stored (k * 2 + 0) (.int .i64 x.page)
  obtain ⟨s1, g1⟩ := s0.stored (k * 2 + 1) (.int .i64 x.lsn)
  rw [e0] at e1
  simp only [List.set_set] at e1
  rw [← e1] at s1
  simp only [Nat.add_zero] at s1 g0 g1
  have tr : ∀ {a b c : World}, a.grownBy b (some g) → b.grownBy c (some g) → a.grownBy c (some g) := fun g1 g2 => ⟨g2.os.trans g1.os, g2.tape.trans g1.tape, g2.output.trans g1.output, Nat.le_trans g1.size g2.size, fun i hi hne => (g2.block i (Nat.lt_of_lt_of_le hi g1.size) hne).trans (g1.block i hi hne)⟩
  refine ⟨?_, tr g0 g1⟩
  have el : (l.set k x).length = l.length := List.length_set
  unfold dOwn
  rw [el]
  exact s1
set_option maxHeartbeats 4000000 in
set_option maxRecDepth 100000 in
theorem dswap {w : World} {base g cap : Nat} {l : List Dy} (h : dOwn w base g cap l) (j : Nat) (hj : j + 1 < l.length) (x y : Dy) :
    dOwn ((((w.setCell ⟨g, (j + 1) * 2, none⟩ (.int .i64 y.page)).setCell ⟨g, (j + 1) * 2 + 1, none⟩ (.int .i64 y.lsn)).setCell ⟨g, j * 2, none⟩ (.int .i64 x.page)).setCell ⟨g, j * 2 + 1, none⟩ (.int .i64 x.lsn)) base g cap ((l.set (j + 1) y).set j x) ∧ w.grownBy ((((w.setCell ⟨g, (j + 1) * 2, none⟩ (.int .i64 y.page)).setCell ⟨g, (j + 1) * 2 + 1, none⟩ (.int .i64 y.lsn)).setCell ⟨g, j * 2, none⟩ (.int .i64 x.page)).setCell ⟨g, j * 2 + 1, none⟩ (.int .i64 x.lsn)) (some g) := by
  obtain ⟨h1, g1⟩ := dput h (j + 1) hj y
  have e : (l.set (j + 1) y).length = l.length := by simp
  obtain ⟨h2, g2⟩ := dput h1 j (by rw [e]; omega) x
  exact ⟨h2, ⟨g2.os.trans g1.os, g2.tape.trans g1.tape, g2.output.trans g1.output, Nat.le_trans g1.size g2.size, fun i hi hne => (g2.block i (Nat.lt_of_lt_of_le hi g1.size) hne).trans (g1.block i hi hne)⟩⟩
def dRel (w : World) (base g cap : Nat) (R : List Dy) (n : Nat) (s8 : Value) (wr : World) : Prop :=
  ∃ (i : Nat) (m : List Dy), s8 = .int .i64 i ∧ 1 ≤ i ∧ i ≤ n ∧ m.length = n ∧ dOwn wr base g cap m ∧ Gz (.slice (some ⟨g, 0, none⟩) n cap) w wr ∧ sortFrom (fun x : Dy => x.page) (n - i) i m = R
def dRel2 (w : World) (base g cap : Nat) (T : List Dy) (n i : Nat) (s9 : Value) (wr : World) : Prop :=
  ∃ (j : Nat) (m : List Dy), s9 = .int .i64 j ∧ j ≤ i ∧ m.length = n ∧ dOwn wr base g cap m ∧ Gz (.slice (some ⟨g, 0, none⟩) n cap) w wr ∧ siftF (fun x : Dy => x.page) j m = T
set_option maxHeartbeats 4000000 in
set_option maxRecDepth 100000 in
theorem dinsert (base g cap : Nat) (l : List Dy) (w : World) (h2 : 1 ≤ l.length) (hl : l.length ≤ 1000000) (ho : dOwn w base g cap l) :
    Calls Try.prog 51 #[.slice (some ⟨g, 0, none⟩) l.length cap, .int .i64 0, .int .i64 l.length, .func (.func 28) #[] #[]] w fun e w' => e = .returned (.tuple #[]) ∧ dOwn w' base g cap (sortF (fun x => x.page) l) ∧ Gz (.slice (some ⟨g, 0, none⟩) l.length cap) w w' := by
  obtain ⟨R, hR⟩ : ∃ R, sortFrom (fun x : Dy => x.page) (l.length - 1) 1 l = R := ⟨_, rfl⟩
  have hRR : sortF (fun x : Dy => x.page) l = R := hR
  rw [hRR]
  have hlr : R.length = l.length := by rw [← hR, sort_len]
  have h0 : dRel w base g cap R l.length (.int .i64 1) w := ⟨1, l, rfl, by omega, h2, rfl, ho, Gz.refl _ _, hR⟩
  generalize l.length = n at *
  clear hR hRR ho
  go_enter Try.func51, Try.ntmps51
  go_wp2_with fail
  go_loopw [8] (fun s8 wr => dRel w base g cap R n s8 wr) (fun s8 _ => n - (intOf s8).toNat)
  case atStart => exact h0
  case round =>
    obtain ⟨i, m, rfl, hi1, hin, hml, hO, hG, hS⟩ := hrel
    have HS := hid hS
    have HO := hid hO
    have HG := hid hG
    clear hS hO hG
    by_cases hlt : i < n
    · obtain ⟨T, hT⟩ : ∃ T, siftF (fun x : Dy => x.page) i m = T := ⟨_, rfl⟩
      have hTl : Hid (T.length = n) := hid (by rw [← hT, sift_len, hml])
      have HN : Hid (sortFrom (fun x : Dy => x.page) (n - (i + 1)) (i + 1) T = R) := hid (by
        rw [← HS.out, show n - i = (n - (i + 1)) + 1 by omega]
        rw [sort_step, hT])
      have h1 : dRel2 w base g cap T n i (.int .i64 i) wr := ⟨i, m, rfl, Nat.le_refl _, hml, HO.out, HG.out, hT⟩
      clear hT HS HO HG hml
      go_wp2_with fail
      go_loopw [9] (fun s9 wq => dRel2 w base g cap T n i s9 wq) (fun s9 _ => (intOf s9).toNat)
      case atStart => exact h1
      case round =>
        obtain ⟨j, m, rfl, hji, hml, hO, hG, hS⟩ := hrel
        have HS := hid hS
        have HG := hid hG
        clear hS hG
        cases j with
        | zero =>
          have HO := hid hO
          clear hO
          have HT : Hid (m = T) := hid HS.out
          clear HS
          go_wp2_with fail
          refine Rg.region_plan 16 [0, 1, 2, 3, 4, 5, 6, 7, 8, 9, 10, 11, 12, 13, 14, 15] [] [] (Below.drew (Below.refl _ _)) (by kernel_rfl) (by kernel_rfl) (fun _ _ d _ _ h => by cases d <;> exact h) ?_
          simp only [Rg.opsAt, List.append_eq, List.cons_append, List.nil_append, List.filterMap_cons, List.filterMap_nil, List.getElem?_toArray, List.getElem?_cons_zero, List.getElem?_cons_succ, List.drop_succ_cons, List.drop_zero]
          repeat (first
              | (refine Rg.wpDets_skip (by rfl) ?_; simp only [Act.put, List.setIfInBounds_toArray, List.set_cons_zero, List.set_cons_succ])
              | (refine Rg.wpDets_step ?_ (by rfl) (fun w hS => ?_) ?_
                 rotate_left
                 · have hc := Gr.cells hS
                   have hf := Gr.frees hS
                   go_simp
                   first
                   | (refine ⟨?_, Below.refl _ _⟩; with_reducible rfl)
                 simp only [Act.put, List.setIfInBounds_toArray, List.set_cons_zero, List.set_cons_succ]))
          refine Rg.wpDets_nil ?_
          refine Rg.wpFlts_nil ?_
          refine Rg.wpLays_nil ?_
          intro w' hK
          have hg : Gr _ w' := hK.up
          have hc := hg.cells
          have hf := hg.frees
          have hz := hg.size
          try simp only [World.size_alloc, World.size_setCell, World.size_drew] at hz
          try have : 0 < w'.heap.size := by omega
          try have : w.heap.size < w'.heap.size := by omega
          try have : w.heap.size + 1 < w'.heap.size := by omega
          try have : w.heap.size + 1 + 1 < w'.heap.size := by omega
          try have : w.heap.size + 1 + 1 + 1 < w'.heap.size := by omega
          go_wp2
          refine ⟨⟨i + 1, T, by go_num, by omega, by omega, hTl.out, ?_, HG.out.gr hK.up, HN.out⟩, by simp [intOf]; omega⟩
          rw [← HT.out]
          exact own_gr HO.out hK.up
        | succ j =>
          have hjn : j + 1 < m.length := by omega
          obtain ⟨oa, c, e0, hat, _, _⟩ := own_at dE hO
          cases e0
          obtain ⟨b1, o1, e1, c0, c1⟩ := d_get hat (j + 1) hjn
          cases e1
          obtain ⟨b2, o2, e2, d0, d1⟩ := d_get hat j (by omega)
          cases e2
          have hzg := lt_of_cell c0
          have HS2 := HS.out
          rw [sift_step hjn] at HS2
          have HO2 := fun w' (hg : Gr wr w') => dswap (own_gr hO hg) j hjn m[j + 1] m[j]
          have HF := fun w' (hg : Gr wr w') k => (own_gr hO hg).frozenAt k
          have HHO := hid hO
          have HHO2 := hid HO2
          simp only [Nat.zero_add] at c0 c1 d0 d1
          generalize m[j + 1] = x at *
          generalize m[j] = y at *
          have C := fun W => dcmp x y W
          have gk1 : decide ((n : Int) ≤ (j : Int) + 1) = false := by rw [decide_eq_false_iff_not]; omega
          have gk4 : decide (n ≤ j + 1) = false := by rw [decide_eq_false_iff_not]; omega
          have gk2 : decide ((n : Int) ≤ (j : Int)) = false := by rw [decide_eq_false_iff_not]; omega
          have gk5 : decide (n ≤ j) = false := by rw [decide_eq_false_iff_not]; omega
          have gq1 : (0 : Int) ≤ (j : Int) + 1 := by omega
          have gq2 : (j : Int) + 1 < (n : Int) := by omega
          have gq3 : (j : Int) < (n : Int) := by omega
          have hw2 : IntKind.i64.wrap (j : Int) = (j : Int) := by rw [IntKind.wrap_i64]; omega
          have gk6 : ((j + 1 : Nat) : Int) = (j : Int) + 1 := by omega
          have gk3 : decide ((0 : Int) < (j : Int) + 1) = true := by rw [decide_eq_true_eq]; omega
          have hw1 : wrap64 ((j : Int) + 1 - 1) = (j : Int) := by unfold wrap64; omega
          have hlt2 := cmpI_lt x.page y.page
          obtain ⟨bb, hbb⟩ : ∃ b, decide (x.page < y.page) = b := ⟨_, rfl⟩
          rw [hbb] at hlt2
          have HS3 : Hid ((if bb = true then siftF (fun x : Dy => x.page) j ((m.set (j + 1) y).set j x) else m) = T) := hid (by
            rw [← HS2, ← hbb]
            simp only [decide_eq_true_eq])
          clear HS2 hbb HO2 hat hO HS
          have HFF := hid HF
          have hj0 : ¬ (j * 2 = (j + 1) * 2) := by omega
          go_wp2_with fail
          refine Rg.region_plan 16 [0, 1, 2, 3, 4, 5, 6, 7, 8, 9, 10, 11, 12, 13, 14, 15] [] [] (Below.drew (Below.refl _ _)) (by kernel_rfl) (by kernel_rfl) (fun _ _ d _ _ h => by cases d <;> exact h) ?_
          simp only [Rg.opsAt, List.append_eq, List.cons_append, List.nil_append, List.filterMap_cons, List.filterMap_nil, List.getElem?_toArray, List.getElem?_cons_zero, List.getElem?_cons_succ, List.drop_succ_cons, List.drop_zero]
          repeat (first
              | (refine Rg.wpDets_skip (by rfl) ?_; simp only [Act.put, List.setIfInBounds_toArray, List.set_cons_zero, List.set_cons_succ])
              | (refine Rg.wpDets_step ?_ (by rfl) (fun w hS => ?_) ?_
                 rotate_left
                 · have hc := Gr.cells hS
                   have hf := Gr.frees hS
                   go_simp
                   first
                   | (refine ⟨?_, Below.refl _ _⟩; with_reducible rfl)
                   | ((with_reducible refine (C _).mono ?_); rintro e w' ⟨rfl, hg⟩; refine ⟨?_, hg⟩; with_reducible rfl)
                 simp only [Act.put, List.setIfInBounds_toArray, List.set_cons_zero, List.set_cons_succ]))
          refine Rg.wpDets_nil ?_
          refine Rg.wpFlts_nil ?_
          refine Rg.wpLays_nil ?_
          intro w' hK
          have hg : Gr _ w' := hK.up
          have hc := hg.cells
          have hf := hg.frees
          have hz := hg.size
          try simp only [World.size_alloc, World.size_setCell, World.size_drew] at hz
          try have : 0 < w'.heap.size := by omega
          try have : w.heap.size < w'.heap.size := by omega
          try have : w.heap.size + 1 < w'.heap.size := by omega
          try have : w.heap.size + 1 + 1 < w'.heap.size := by omega
          try have : w.heap.size + 1 + 1 + 1 < w'.heap.size := by omega
          cases bb
          · have HT : Hid (m = T) := hid (by have := HS3.out; simpa using this)
            clear HS3
            go_wp2
            refine ⟨⟨i + 1, T, by go_num, by omega, by omega, hTl.out, ?_, HG.out.gr hK.up, HN.out⟩, by simp [intOf]; omega⟩
            rw [← HT.out]
            exact own_gr HHO.out hg
          · have HT : Hid (siftF (fun x : Dy => x.page) j ((m.set (j + 1) y).set j x) = T) := hid (by have := HS3.out; simpa using this)
            clear HS3
            have c0 := hg.keep c0
            have d0 := hg.keep d0
            have c1 := hg.keep c1
            have d1 := hg.keep d1
            have fc0 := HFF.out _ hg ((j + 1) * 2)
            have fd0 := HFF.out _ hg (j * 2)
            have fc1 := HFF.out _ hg ((j + 1) * 2 + 1)
            have fd1 := HFF.out _ hg (j * 2 + 1)
            have HUP := hid hg
            have zg : g < w'.heap.size := Nat.lt_of_lt_of_le hzg hg.size
            clear hK hc hf hg hz C
            go_wp2_with fail
            go_region
            have hsw := HHO2.out w' HUP.out
            have hO3 := hid (World.ownsRow.drew hsw.1)
            have hG3 := hid (((HG.out.gr HUP.out).trans hsw.2).gr (Gr.drew (Gr.refl _)))
            clear hsw fc0 fd0 c0 d0 c1 d1
            go_wp2
            refine ⟨⟨j, (m.set (j + 1) y).set j x, by go_num, by omega, by simp; omega, hO3.out, hG3.out, HT.out⟩, by simp [intOf]⟩
    · obtain rfl : i = n := by omega
      have hmR : Hid (m = R) := hid (by have := HS.out; rw [Nat.sub_self] at this; exact this)
      clear HS
      go_wp2
      refine bodyPost_end (v := .tuple #[]) (by simp [results, Try.results51, go_sem]) rfl ⟨rfl, ?_, HG.out⟩
      rw [← hmR.out]
      exact HO.out
set_option maxHeartbeats 4000000 in
set_option maxRecDepth 100000 in
theorem dstable (base g cap : Nat) (l : List Dy) (w : World) (h2 : 1 ≤ l.length) (hl : l.length ≤ 19) (ho : dOwn w base g cap l) :
    Calls Try.prog 48 #[.slice (some ⟨g, 0, none⟩) l.length cap, .int .i64 l.length, .func (.func 28) #[] #[]] w fun e w' => e = .returned (.tuple #[]) ∧ dOwn w' base g cap (sortF (fun x => x.page) l) ∧ Gz (.slice (some ⟨g, 0, none⟩) l.length cap) w w' := by
  have I := dinsert base g cap l w h2 (by omega) ho
  generalize sortF (fun x : Dy => x.page) l = R at *
  generalize l.length = n at *
  have g1 : decide ((20 : Int) ≤ (n : Int)) = false := by rw [decide_eq_false_iff_not]; omega
  have g2 : decide ((20 : Int) < (n : Int)) = false := by rw [decide_eq_false_iff_not]; omega
  have g3 : decide ((20 : Nat) ≤ n) = false := by rw [decide_eq_false_iff_not]; omega
  have g4 : decide ((20 : Nat) < n) = false := by rw [decide_eq_false_iff_not]; omega
  clear ho
  go_enter Try.func48, Try.ntmps48
  go_wp2_with fail
  go_loopw [7, 8] (fun s7 s8 wr => s7 = .int .i64 0 ∧ s8 = .int .i64 20 ∧ wr = w) (fun _ _ _ => 0)
  case atStart => exact ⟨rfl, rfl, rfl⟩
  case round =>
    obtain ⟨rfl, rfl, rfl⟩ := hrel
    go_wp2_with fail
    refine I.mono ?_
    rintro e w1 ⟨rfl, h1, hg⟩
    go_wp2_with fail
    go_loopw [6] (fun s6 wr => s6 = .int .i64 20 ∧ wr = w1) (fun _ _ => 0)
    case atStart => exact ⟨rfl, rfl⟩
    case round =>
      obtain ⟨rfl, rfl⟩ := hrel
      go_wp2
      refine bodyPost_end (v := .tuple #[]) (by simp [results, Try.results48, go_sem]) rfl ⟨rfl, h1, hg⟩
theorem dinsert0 (oa : Option Addr) (c : Nat) (w : World) : Calls Try.prog 51 #[.slice oa 0 c, .int .i64 0, .int .i64 0, .func (.func 28) #[] #[]] w fun e w' => e = .returned (.tuple #[]) ∧ w' = w := by
  go_enter Try.func51, Try.ntmps51
  go_wp2_with fail
  go_loopw [8] (fun s8 wr => s8 = .int .i64 1 ∧ wr = w) (fun _ _ => 0)
  case atStart => exact ⟨rfl, rfl⟩
  case round =>
    obtain ⟨rfl, rfl⟩ := hrel
    go_wp2
    refine bodyPost_end (v := .tuple #[]) (by simp [results, Try.results51, go_sem]) rfl ⟨rfl, rfl⟩
theorem dstable0 (oa : Option Addr) (c : Nat) (w : World) : Calls Try.prog 48 #[.slice oa 0 c, .int .i64 0, .func (.func 28) #[] #[]] w fun e w' => e = .returned (.tuple #[]) ∧ w' = w := by
  have I := dinsert0 oa c w
  go_enter Try.func48, Try.ntmps48
  go_wp2_with fail
  go_loopw [7, 8] (fun s7 s8 wr => s7 = .int .i64 0 ∧ s8 = .int .i64 20 ∧ wr = w) (fun _ _ _ => 0)
  case atStart => exact ⟨rfl, rfl, rfl⟩
  case round =>
    obtain ⟨rfl, rfl, rfl⟩ := hrel
    go_wp2_with fail
    refine I.mono ?_
    rintro e w1 ⟨rfl, rfl⟩
    go_wp2_with fail
    go_loopw [6] (fun s6 wr => s6 = .int .i64 20 ∧ wr = w1) (fun _ _ => 0)
    case atStart => exact ⟨rfl, rfl⟩
    case round =>
      obtain ⟨rfl, rfl⟩ := hrel
      go_wp2
      refine bodyPost_end (v := .tuple #[]) (by simp [results, Try.results48, go_sem]) rfl ⟨rfl, rfl⟩
theorem dsort (base : Nat) (v : Value) (l : List Dy) (w : World) (hl : l.length ≤ 19) (ho : w.ownsRow base 36 2 v l.length (cellsF dF l)) :
    Calls Try.prog 27 #[v, .func (.func 28) #[] #[]] w fun e w' => e = .returned (.tuple #[]) ∧ w'.ownsRow base 36 2 v (sortF (fun x => x.page) l).length (cellsF dF (sortF (fun x => x.page) l)) ∧ Gz v w w' := by
  by_cases h0 : l.length = 0
  · have hnil : l = [] := List.eq_nil_of_length_eq_zero h0
    subst hnil
    obtain ⟨oa, c, rfl, _, _, _⟩ := own_at dE ho
    have I := dstable0 oa c w
    have ho2 := hid ho
    clear ho
    simp only [List.length_nil] at *
    go_enter Try.func27, Try.ntmps27
    go_wp2_with fail
    refine I.mono ?_
    rintro e w1 ⟨rfl, rfl⟩
    go_wp2
    refine bodyPost_end (v := .tuple #[]) (by simp [results, Try.results27, go_sem]) rfl ⟨rfl, ho2.out, Gz.refl _ _⟩
  · obtain ⟨g, cap, rfl, _, _, _⟩ := own_form ho (by omega)
    have I := dstable base g cap l w (by omega) hl ho
    have hlen : (sortF (fun x : Dy => x.page) l).length = l.length := sort_len _ _ _ _
    unfold dOwn at I
    rw [hlen] at I ⊢
    generalize sortF (fun x : Dy => x.page) l = R at *
    generalize l.length = n at *
    clear ho
    go_enter Try.func27, Try.ntmps27
    go_wp2_with fail
    refine I.mono ?_
    rintro e w1 ⟨rfl, h1, hg⟩
    go_wp2
    refine bodyPost_end (v := .tuple #[]) (by simp [results, Try.results27, go_sem]) rfl ⟨rfl, h1, hg⟩
end Go.Proofs.Ytmanokhadppeeaa
