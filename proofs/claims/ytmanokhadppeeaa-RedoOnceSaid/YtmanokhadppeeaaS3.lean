/- redo: one place is taken out of a list of one's own. (By mkS3.py.) -/
import Derived.Test.YtmanokhadppeeaaS2
import Derived.Lib.SliceRun
namespace Go.Proofs.Ytmanokhadppeeaa
open Go.RowKit
set_option linter.unusedSimpArgs false
set_option linter.unusedVariables false
attribute [local go_sem] Rg.leads_value Rg.leads_skip Rg.leads_enter Rg.brings_value Rg.brings_skip Rg.brings_enter
structure Lo where
  id : Int
  next : Int
def lF (x : Lo) : List Value := [.int .i64 x.id, .int .i64 x.next]
theorem lE : Enc lF 2 := ⟨fun _ => rfl, fun x u hu => by simp [lF] at hu; rcases hu with rfl | rfl <;> rfl, by omega⟩
abbrev LoAt := AtF lF 2
theorem l_info : (Try.prog.info? 82).map (fun i => (i.zero, i.size, i.bytes)) = some (some (.agg #[.int .i64 0, .int .i64 0]), 2, 16) := by kernel_rfl
abbrev lOwn (w : World) (base g cap : Nat) (l : List Lo) : Prop := w.ownsRow base 82 2 (.slice (some ⟨g, 0, none⟩) l.length cap) l.length (cellsF lF l)
/-- a row of one's own is, as far as it goes, one of one's own; all its room may be written -/
theorem own_prefix {w : World} {base e size g m cap : Nat} {xs : List Value} (h : w.ownsRow base e size (.slice (some ⟨g, 0, none⟩) m cap) m xs) (k : Nat) (hk : k ≤ m) : w.ownsRow base e size (.slice (some ⟨g, 0, none⟩) k cap) k (xs.take (k * size)) := by
  have hl : k * size ≤ m * size := Nat.mul_le_mul_right _ hk
  rcases h.2 with ⟨h', _⟩ | ⟨g', cap', cur, h', hb, hg, hc, hcm, hcs, ht⟩
  · simp at h'
  · simp only [Value.slice.injEq, Option.some.injEq, Addr.mk.injEq, and_true, true_and] at h'
    obtain ⟨rfl, rfl⟩ := h'
    refine ⟨by rw [List.length_take, h.1]; omega, .inr ⟨g, cap, cur, rfl, hb, hg, by omega, hcm, hcs, ?_⟩⟩
    rw [← ht, List.take_take, Nat.min_eq_left hl]
theorem own_room {w : World} {base e size g m cap : Nat} {xs : List Value} (h : w.ownsRow base e size (.slice (some ⟨g, 0, none⟩) m cap) m xs) (j : Nat) (hj : j < cap * size) : (w.cell? ⟨g, j, none⟩).isSome = true ∧ w.frozen? ⟨g, j, none⟩ = false := by
  refine ⟨?_, h.frozenAt j⟩
  rcases h.2 with ⟨h', _⟩ | ⟨g', cap', cur, h', hb, hg, hc, hcm, hcs, ht⟩
  · simp at h'
  · simp only [Value.slice.injEq, Option.some.injEq, Addr.mk.injEq, and_true, true_and] at h'
    obtain ⟨rfl, rfl⟩ := h'
    rw [cell_of_row w g j cur e (0, 0) hg, Array.getElem?_eq_getElem (by omega)]
    rfl
theorem own_beyond {w : World} {base e size g m cap : Nat} {xs : List Value} (h : w.ownsRow base e size (.slice (some ⟨g, 0, none⟩) m cap) m xs) : ∀ (vs : List Value) (o : Nat), m * size ≤ o → (w.setCells g o vs).ownsRow base e size (.slice (some ⟨g, 0, none⟩) m cap) m xs ∧ w.grownBy (w.setCells g o vs) (some g) := by
  intro vs
  induction vs generalizing w with
  | nil => intro o _; exact ⟨h, World.grownBy.refl _ _⟩
  | cons u r ih =>
    intro o ho
    obtain ⟨h1, g1⟩ := h.stored o u
    rw [List.set_eq_of_length_le (by rw [h.1]; exact ho)] at h1
    obtain ⟨h2, g2⟩ := ih h1 (o + 1) (by omega)
    exact ⟨h2, ⟨g2.os.trans g1.os, g2.tape.trans g1.tape, g2.output.trans g1.output, Nat.le_trans g1.size g2.size, fun i hi hne => (g2.block i (Nat.lt_of_lt_of_le hi g1.size) hne).trans (g1.block i hi hne)⟩⟩
theorem run_clear_one {P : Program} (w : World) (t e ty : TypeId) (z : Value) (ht : P.underlying t = some (.slice e)) (hv : ∀ w, (zeroValue e).run P w = .ok z w) (h1 : ∀ v ∈ z.cells.toList, v.oneCell' = true) (b o c : Nat)
    (hc : ∀ j, j < z.cells.size → (w.cell? ⟨b, o + j, none⟩).isSome = true) (hf : ∀ j, j < z.cells.size → w.frozen? ⟨b, o + j, none⟩ = false) :
    (Builtin.clear_ #[t] ty #[.slice (some ⟨b, o, none⟩) 1 c]).run P w = .ok (.tuple #[]) (w.setCells b o z.cells.toList) := by
  have hzc : (Builtin.zeroCells z.cells 1).toList = z.cells.toList := by
    unfold Builtin.zeroCells
    rw [Nat.one_mul]
    apply List.ext_getElem
    · simp
    · intro i h1 h2
      simp at h1 h2
      simp [Nat.mod_eq_of_lt h1, h1]
  have hst := run_storeCells_cells (P := P) b o z.cells.toList 0 w (by simpa using hc) (by simpa using hf) h1
  simp only [Nat.add_zero] at hst
  simp [Builtin.clear_, run_underlying ht, hv, hzc, hst]
theorem cellsF_take {α : Type} {f : α → List Value} {n : Nat} (he : Enc f n) : ∀ (l : List α) (k : Nat), (cellsF f l).take (k * n) = cellsF f (l.take k)
  | [], k => by simp [cellsF]
  | x :: r, 0 => by simp [cellsF]
  | x :: r, k + 1 => by
    rw [List.take_succ_cons, cellsF_cons, cellsF_cons, ← cellsF_take he r k, List.take_append, List.take_of_length_le (by rw [he.len, Nat.add_mul]; omega), he.len, show (k + 1) * n - n = k * n by rw [Nat.add_mul]; omega]

theorem tzero : ∀ w, (zeroValue 53).run Try.prog w = .ok (.agg #[.int .i64 0, .int .i64 0, .int .i64 0]) w := by
  obtain ⟨i0, hi, hz0, hz1, hz2⟩ := info_parts t_info
  intro w
  simp [zeroValue, typeInfo, hi, hz0]
set_option maxHeartbeats 4000000 in
set_option maxRecDepth 100000 in
theorem tdelete (base g cap : Nat) (l : List Tx) (i : Nat) (w : World) (hi0 : i < l.length) (hl : l.length ≤ 1000000000) (hcap : cap ≤ 9223372036854775807) (ho : tOwn w base g cap l) :
    Calls Try.prog 23 #[.slice (some ⟨g, 0, none⟩) l.length cap, .int .i64 i, .int .i64 ((i : Int) + 1)] w fun e w' => e = .returned (.slice (some ⟨g, 0, none⟩) (l.eraseIdx i).length cap) ∧ tOwn w' base g cap (l.eraseIdx i) ∧ Gz (.slice (some ⟨g, 0, none⟩) l.length cap) w w' := by
  obtain ⟨i0, hi, hz0, hz1, hz2⟩ := info_parts t_info
  have hcap2 : l.length ≤ cap := by
    obtain ⟨g', cap', e, _, _, hc⟩ := own_form ho (by omega)
    cases e; exact hc
  have hpre := own_prefix ho i (by omega)
  rw [cellsF_take tE] at hpre
  have hel : (l.eraseIdx i).length = l.length - 1 := List.length_eraseIdx_of_lt hi0
  have hcells : cellsF tF (l.take i) ++ cellsF tF (l.drop (i + 1)) = cellsF tF (l.eraseIdx i) := by
    rw [← cellsF_append, List.eraseIdx_eq_take_drop_succ]
  have hat : ∀ W, Gr w W → ∀ ad, (if cap = i + 1 then some (⟨g, 0, none⟩ : Addr) else some ⟨g, (i + 1) * 3, none⟩) = some ad → ∀ j u, (cellsF tF (l.drop (i + 1)))[j]? = some u → W.cell? (ad.add j) = some u := fun W hW ad had j u hu => by
    have hlen := (List.getElem?_eq_some_iff.1 hu).1
    rw [tE.cells_len, List.length_drop] at hlen
    split at had
    · exfalso
      rename_i hce
      have : (l.length - (i + 1)) * 3 = 0 := by omega
      omega
    · cases had
      have h2 := own_gr ho hW
      rw [addN]
      rw [h2.cellAt _ (by omega)]
      obtain ⟨k, hk, q, hq, rfl, hu2⟩ := tE.cells_at _ _ _ hu
      rw [List.length_drop] at hk
      rw [show (i + 1) * 3 + (k * 3 + q) = (i + 1 + k) * 3 + q by omega, tE.cells_get l (i + 1 + k) (by omega) q hq]
      rw [List.getElem_drop] at hu2
      exact hu2
  have hnews : (cellsF tF (l.drop (i + 1))).length = (l.length - (i + 1)) * 3 := by rw [tE.cells_len, List.length_drop]
  have Hpre := hid hpre
  have Hat := hid hat
  have Hcells := hid hcells
  have Hel := hid hel
  have hone := hid (tE.cells_one (l.drop (i + 1)))
  have HO := hid ho
  have hzg : g < w.heap.size := (World.ownsRow.lt ho g rfl).2
  obtain ⟨n, hn⟩ : ∃ n, l.length = n := ⟨_, rfl⟩
  rw [hn] at hi0 hl hcap2 hnews hel ⊢
  have Hnews := hid hnews
  have q1 : ((i : Int) == (i : Int) + 1) = false := by rw [beq_eq_false_iff_ne]; omega
  have q2 : (0 : Int) ≤ (i : Int) := by omega
  have q3 : (i : Int) ≤ (i : Int) + 1 := by omega
  have q4 : (i : Int) + 1 ≤ (n : Int) := by omega
  have q5 : (n : Int) ≤ (cap : Int) := by omega
  have q6 : (0 : Int) ≤ (i : Int) + 1 := by omega
  have q7 : (i : Int) ≤ (cap : Int) := by omega
  have q8 : (i : Int) ≤ (n : Int) := by omega
  have q9 : (0 : Int) ≤ (n : Int) := by omega
  clear hpre hat hcells hel hnews ho
  obtain ⟨m, hm⟩ : ∃ m, n = m + 1 := ⟨n - 1, by omega⟩
  rw [show l.length - 1 = m by omega] at Hel
  have Hnm : Hid (i + (n - (i + 1)) = m) := hid (by omega)
  have Hn1 : Hid (n - m = 1) := hid (by omega)
  have qm1 : (0 : Int) ≤ (m : Int) := by omega
  have qm2 : (m : Int) ≤ (n : Int) := by omega
  have qm5 : (m : Int) ≤ (cap : Int) := by omega
  have qm4 : ¬ cap = m := by omega
  have qm7 : m ≤ n := by omega
  have qm8 : m ≤ cap := by omega
  have qm9 : n ≤ cap := by omega
  have Hm := hid hm
  clear hm
  by_cases hce : cap = i + 1
  · rw [if_pos hce] at Hat
    have HiA : Hid (i = m) := hid (by have := Hm.out; omega)
    have HcA : Hid (cellsF tF (l.take i) = cellsF tF (l.eraseIdx i)) := hid (by
      rw [← Hcells.out, List.drop_eq_nil_of_le (by omega)]
      simp [cellsF])
    subst hce
    have qa1 : (m : Int) ≤ (i : Int) + 1 := by omega
    have qa2 : (n : Int) ≤ (i : Int) + 1 := by omega
    go_enter Try.func23, Try.ntmps23
    go_wp2_with fail
    refine Rg.region_plan 6 [0, 1, 2, 3, 4, 5] [] [] (Below.drew (Below.refl _ _)) (by kernel_rfl) (by kernel_rfl) (fun _ _ d _ _ h => by cases d <;> exact h) ?_
    simp only [Rg.opsAt, List.append_eq, List.cons_append, List.nil_append, List.filterMap_cons, List.filterMap_nil, List.getElem?_toArray, List.getElem?_cons_zero, List.getElem?_cons_succ, List.drop_succ_cons, List.drop_zero]
    repeat (first
        | (refine Rg.wpDets_skip (by rfl) ?_; simp only [Act.put, List.setIfInBounds_toArray, List.set_cons_zero, List.set_cons_succ])
        | (refine Rg.wpDets_step ?_ (by rfl) (fun w hS => ?_) ?_
           rotate_left
           · have hc := Gr.cells hS
             have hf := Gr.frees hS
             go_simp
             first
             | (refine ⟨?_, Below.refl _ _⟩; with_reducible rfl)
           simp only [Act.put, List.setIfInBounds_toArray, List.set_cons_zero, List.set_cons_succ]))
    refine Rg.wpDets_nil ?_
    refine Rg.wpFlts_nil ?_
    refine Rg.wpLays_nil ?_
    intro w' hK
    have hg : Gr _ w' := hK.up
    have hc := hg.cells
    have hf := hg.frees
    have hz := hg.size
    try simp only [World.size_alloc, World.size_setCell, World.size_drew] at hz
    try have : 0 < w'.heap.size := by omega
    try have : w.heap.size < w'.heap.size := by omega
    try have : w.heap.size + 1 < w'.heap.size := by omega
    try have : w.heap.size + 1 + 1 < w'.heap.size := by omega
    try have : w.heap.size + 1 + 1 + 1 < w'.heap.size := by omega
    go_wp2_with (at_builtin; refine wpList_append_fits _ rfl _ _ 25 rfl base 53 i0 3 Try.underlying25 hi hz1 g i (i + 1) (cellsF tF (l.take i)) rfl (own_gr Hpre.out hg) ⟨g, 0, none⟩ 0 0 [] rfl ?xa1 ?xa2 ?xa3 ?xa4 ?_)
    case xa1 => simp
    case xa2 => simp
    case xa3 => simp
    case xa4 => omega
    intro w2 hown2 hg2
    rw [HcA.out] at hown2
    have hG2 : Gz (.slice (some ⟨g, 0, none⟩) n (i + 1)) w w2 := Gz.trans (.of hg) hg2
    have hcl : ∀ ty, (Builtin.clear_ #[25] ty #[.slice (some ⟨g, i * 3, none⟩) (n - i) 1]).run Try.prog w2 = .ok (.tuple #[]) (w2.setCells g (i * 3) [.int .i64 0, .int .i64 0, .int .i64 0]) := fun ty => by
      rw [show n - i = 1 by have := Hn1.out; have := HiA.out; omega]
      exact run_clear_one w2 25 53 ty _ Try.underlying25 tzero (by intro v hv; simp [Value.cells] at hv; subst hv; rfl) g (i * 3) 1 (fun j hj => (own_room hown2 _ (by have : j < 3 := hj; omega)).1) (fun j hj => (own_room hown2 _ (by have : j < 3 := hj; omega)).2)
    obtain ⟨hO3, hG3⟩ := own_beyond hown2 [.int .i64 0, .int .i64 0, .int .i64 0] (i * 3) (Nat.le_refl _)
    generalize w2.setCells g (i * 3) [.int .i64 0, .int .i64 0, .int .i64 0] = w3 at *
    have HO3 := hid hO3
    clear hown2 hg2 hO3 hc hf hz
    go_wp2
    go_ret
    refine ⟨by rw [Hel.out, ← HiA.out]; rfl, ?_, hG2.trans hG3⟩
    unfold tOwn
    rw [Hel.out, ← HiA.out]
    exact HO3.out
  · rw [if_neg hce] at Hat
    go_enter Try.func23, Try.ntmps23
    go_wp2_with fail
    refine Rg.region_plan 6 [0, 1, 2, 3, 4, 5] [] [] (Below.drew (Below.refl _ _)) (by kernel_rfl) (by kernel_rfl) (fun _ _ d _ _ h => by cases d <;> exact h) ?_
    simp only [Rg.opsAt, List.append_eq, List.cons_append, List.nil_append, List.filterMap_cons, List.filterMap_nil, List.getElem?_toArray, List.getElem?_cons_zero, List.getElem?_cons_succ, List.drop_succ_cons, List.drop_zero]
    repeat (first
        | (refine Rg.wpDets_skip (by rfl) ?_; simp only [Act.put, List.setIfInBounds_toArray, List.set_cons_zero, List.set_cons_succ])
        | (refine Rg.wpDets_step ?_ (by rfl) (fun w hS => ?_) ?_
           rotate_left
           · have hc := Gr.cells hS
             have hf := Gr.frees hS
             go_simp
             first
             | (refine ⟨?_, Below.refl _ _⟩; with_reducible rfl)
           simp only [Act.put, List.setIfInBounds_toArray, List.set_cons_zero, List.set_cons_succ]))
    refine Rg.wpDets_nil ?_
    refine Rg.wpFlts_nil ?_
    refine Rg.wpLays_nil ?_
    intro w' hK
    have hg : Gr _ w' := hK.up
    have hc := hg.cells
    have hf := hg.frees
    have hz := hg.size
    try simp only [World.size_alloc, World.size_setCell, World.size_drew] at hz
    try have : 0 < w'.heap.size := by omega
    try have : w.heap.size < w'.heap.size := by omega
    try have : w.heap.size + 1 < w'.heap.size := by omega
    try have : w.heap.size + 1 + 1 < w'.heap.size := by omega
    try have : w.heap.size + 1 + 1 + 1 < w'.heap.size := by omega
    go_wp2_with (at_builtin; refine wpList_append_fits _ rfl _ _ 25 rfl base 53 i0 3 Try.underlying25 hi hz1 g i (cap) (cellsF tF (l.take i)) rfl (own_gr Hpre.out hg) ⟨g, (i + 1) * 3, none⟩ (n - (i + 1)) (cap - (i + 1)) (cellsF tF (l.drop (i + 1))) rfl ?xb1 ?xb2 hone.out ?xb4 ?_)
    case xb1 => exact Hnews.out
    case xb2 => exact Hat.out _ hg _ rfl
    case xb4 => omega
    intro w2 hown2 hg2
    rw [Hnm.out, Hcells.out] at hown2
    rw [Hnm.out]
    have hG2 : Gz (.slice (some ⟨g, 0, none⟩) n (cap)) w w2 := Gz.trans (.of hg) hg2
    have hcl : ∀ ty, (Builtin.clear_ #[25] ty #[.slice (some ⟨g, m * 3, none⟩) (n - m) (cap - m)]).run Try.prog w2 = .ok (.tuple #[]) (w2.setCells g (m * 3) [.int .i64 0, .int .i64 0, .int .i64 0]) := fun ty => by
      rw [Hn1.out]
      exact run_clear_one w2 25 53 ty _ Try.underlying25 tzero (by intro v hv; simp [Value.cells] at hv; subst hv; rfl) g (m * 3) (cap - m) (fun j hj => (own_room hown2 _ (by have : j < 3 := hj; omega)).1) (fun j hj => (own_room hown2 _ (by have : j < 3 := hj; omega)).2)
    obtain ⟨hO3, hG3⟩ := own_beyond hown2 [.int .i64 0, .int .i64 0, .int .i64 0] (m * 3) (Nat.le_refl _)
    generalize w2.setCells g (m * 3) [.int .i64 0, .int .i64 0, .int .i64 0] = w3 at *
    have HO3 := hid hO3
    clear hown2 hg2 hO3 hc hf hz
    go_wp2
    go_ret
    refine ⟨by rw [Hel.out]; rfl, ?_, hG2.trans hG3⟩
    unfold tOwn
    rw [Hel.out]
    exact HO3.out

theorem lzero : ∀ w, (zeroValue 82).run Try.prog w = .ok (.agg #[.int .i64 0, .int .i64 0]) w := by
  obtain ⟨i0, hi, hz0, hz1, hz2⟩ := info_parts l_info
  intro w
  simp [zeroValue, typeInfo, hi, hz0]
set_option maxHeartbeats 4000000 in
set_option maxRecDepth 100000 in
theorem ldelete (base g cap : Nat) (l : List Lo) (i : Nat) (w : World) (hi0 : i < l.length) (hl : l.length ≤ 1000000000) (hcap : cap ≤ 9223372036854775807) (ho : lOwn w base g cap l) :
    Calls Try.prog 41 #[.slice (some ⟨g, 0, none⟩) l.length cap, .int .i64 i, .int .i64 ((i : Int) + 1)] w fun e w' => e = .returned (.slice (some ⟨g, 0, none⟩) (l.eraseIdx i).length cap) ∧ lOwn w' base g cap (l.eraseIdx i) ∧ Gz (.slice (some ⟨g, 0, none⟩) l.length cap) w w' := by
  obtain ⟨i0, hi, hz0, hz1, hz2⟩ := info_parts l_info
  have hcap2 : l.length ≤ cap := by
    obtain ⟨g', cap', e, _, _, hc⟩ := own_form ho (by omega)
    cases e; exact hc
  have hpre := own_prefix ho i (by omega)
  rw [cellsF_take lE] at hpre
  have hel : (l.eraseIdx i).length = l.length - 1 := List.length_eraseIdx_of_lt hi0
  have hcells : cellsF lF (l.take i) ++ cellsF lF (l.drop (i + 1)) = cellsF lF (l.eraseIdx i) := by
    rw [← cellsF_append, List.eraseIdx_eq_take_drop_succ]
  have hat : ∀ W, Gr w W → ∀ ad, (if cap = i + 1 then some (⟨g, 0, none⟩ : Addr) else some ⟨g, (i + 1) * 2, none⟩) = some ad → ∀ j u, (cellsF lF (l.drop (i + 1)))[j]? = some u → W.cell? (ad.add j) = some u := fun W hW ad had j u hu => by
    have hlen := (List.getElem?_eq_some_iff.1 hu).1
    rw [lE.cells_len, List.length_drop] at hlen
    split at had
    · exfalso
      rename_i hce
      have : (l.length - (i + 1)) * 2 = 0 := by omega
      omega
    · cases had
      have h2 := own_gr ho hW
      rw [addN]
      rw [h2.cellAt _ (by omega)]
      obtain ⟨k, hk, q, hq, rfl, hu2⟩ := lE.cells_at _ _ _ hu
      rw [List.length_drop] at hk
      rw [show (i + 1) * 2 + (k * 2 + q) = (i + 1 + k) * 2 + q by omega, lE.cells_get l (i + 1 + k) (by omega) q hq]
      rw [List.getElem_drop] at hu2
      exact hu2
  have hnews : (cellsF lF (l.drop (i + 1))).length = (l.length - (i + 1)) * 2 := by rw [lE.cells_len, List.length_drop]
  have Hpre := hid hpre
  have Hat := hid hat
  have Hcells := hid hcells
  have Hel := hid hel
  have hone := hid (lE.cells_one (l.drop (i + 1)))
  have HO := hid ho
  have hzg : g < w.heap.size := (World.ownsRow.lt ho g rfl).2
  obtain ⟨n, hn⟩ : ∃ n, l.length = n := ⟨_, rfl⟩
  rw [hn] at hi0 hl hcap2 hnews hel ⊢
  have Hnews := hid hnews
  have q1 : ((i : Int) == (i : Int) + 1) = false := by rw [beq_eq_false_iff_ne]; omega
  have q2 : (0 : Int) ≤ (i : Int) := by omega
  have q3 : (i : Int) ≤ (i : Int) + 1 := by omega
  have q4 : (i : Int) + 1 ≤ (n : Int) := by omega
  have q5 : (n : Int) ≤ (cap : Int) := by omega
  have q6 : (0 : Int) ≤ (i : Int) + 1 := by omega
  have q7 : (i : Int) ≤ (cap : Int) := by omega
  have q8 : (i : Int) ≤ (n : Int) := by omega
  have q9 : (0 : Int) ≤ (n : Int) := by omega
  clear hpre hat hcells hel hnews ho
  obtain ⟨m, hm⟩ : ∃ m, n = m + 1 := ⟨n - 1, by omega⟩
  rw [show l.length - 1 = m by omega] at Hel
  have Hnm : Hid (i + (n - (i + 1)) = m) := hid (by omega)
  have Hn1 : Hid (n - m = 1) := hid (by omega)
  have qm1 : (0 : Int) ≤ (m : Int) := by omega
  have qm2 : (m : Int) ≤ (n : Int) := by omega
  have qm5 : (m : Int) ≤ (cap : Int) := by omega
  have qm4 : ¬ cap = m := by omega
  have qm7 : m ≤ n := by omega
  have qm8 : m ≤ cap := by omega
  have qm9 : n ≤ cap := by omega
  have Hm := hid hm
  clear hm
  by_cases hce : cap = i + 1
  · rw [if_pos hce] at Hat
    have HiA : Hid (i = m) := hid (by have := Hm.out; omega)
    have HcA : Hid (cellsF lF (l.take i) = cellsF lF (l.eraseIdx i)) := hid (by
      rw [← Hcells.out, List.drop_eq_nil_of_le (by omega)]
      simp [cellsF])
    subst hce
    have qa1 : (m : Int) ≤ (i : Int) + 1 := by omega
    have qa2 : (n : Int) ≤ (i : Int) + 1 := by omega
    go_enter Try.func41, Try.ntmps41
    go_wp2_with fail
    refine Rg.region_plan 6 [0, 1, 2, 3, 4, 5] [] [] (Below.drew (Below.refl _ _)) (by kernel_rfl) (by kernel_rfl) (fun _ _ d _ _ h => by cases d <;> exact h) ?_
    simp only [Rg.opsAt, List.append_eq, List.cons_append, List.nil_append, List.filterMap_cons, List.filterMap_nil, List.getElem?_toArray, List.getElem?_cons_zero, List.getElem?_cons_succ, List.drop_succ_cons, List.drop_zero]
    repeat (first
        | (refine Rg.wpDets_skip (by rfl) ?_; simp only [Act.put, List.setIfInBounds_toArray, List.set_cons_zero, List.set_cons_succ])
        | (refine Rg.wpDets_step ?_ (by rfl) (fun w hS => ?_) ?_
           rotate_left
           · have hc := Gr.cells hS
             have hf := Gr.frees hS
             go_simp
             first
             | (refine ⟨?_, Below.refl _ _⟩; with_reducible rfl)
           simp only [Act.put, List.setIfInBounds_toArray, List.set_cons_zero, List.set_cons_succ]))
    refine Rg.wpDets_nil ?_
    refine Rg.wpFlts_nil ?_
    refine Rg.wpLays_nil ?_
    intro w' hK
    have hg : Gr _ w' := hK.up
    have hc := hg.cells
    have hf := hg.frees
    have hz := hg.size
    try simp only [World.size_alloc, World.size_setCell, World.size_drew] at hz
    try have : 0 < w'.heap.size := by omega
    try have : w.heap.size < w'.heap.size := by omega
    try have : w.heap.size + 1 < w'.heap.size := by omega
    try have : w.heap.size + 1 + 1 < w'.heap.size := by omega
    try have : w.heap.size + 1 + 1 + 1 < w'.heap.size := by omega
    go_wp2_with (at_builtin; refine wpList_append_fits _ rfl _ _ 80 rfl base 82 i0 2 Try.underlying80 hi hz1 g i (i + 1) (cellsF lF (l.take i)) rfl (own_gr Hpre.out hg) ⟨g, 0, none⟩ 0 0 [] rfl ?xa1 ?xa2 ?xa3 ?xa4 ?_)
    case xa1 => simp
    case xa2 => simp
    case xa3 => simp
    case xa4 => omega
    intro w2 hown2 hg2
    rw [HcA.out] at hown2
    have hG2 : Gz (.slice (some ⟨g, 0, none⟩) n (i + 1)) w w2 := Gz.trans (.of hg) hg2
    have hcl : ∀ ty, (Builtin.clear_ #[80] ty #[.slice (some ⟨g, i * 2, none⟩) (n - i) 1]).run Try.prog w2 = .ok (.tuple #[]) (w2.setCells g (i * 2) [.int .i64 0, .int .i64 0]) := fun ty => by
      rw [show n - i = 1 by have := Hn1.out; have := HiA.out; omega]
      exact run_clear_one w2 80 82 ty _ Try.underlying80 lzero (by intro v hv; simp [Value.cells] at hv; subst hv; rfl) g (i * 2) 1 (fun j hj => (own_room hown2 _ (by have : j < 2 := hj; omega)).1) (fun j hj => (own_room hown2 _ (by have : j < 2 := hj; omega)).2)
    obtain ⟨hO3, hG3⟩ := own_beyond hown2 [.int .i64 0, .int .i64 0] (i * 2) (Nat.le_refl _)
    generalize w2.setCells g (i * 2) [.int .i64 0, .int .i64 0] = w3 at *
    have HO3 := hid hO3
    clear hown2 hg2 hO3 hc hf hz
    go_wp2
    go_ret
    refine ⟨by rw [Hel.out, ← HiA.out]; rfl, ?_, hG2.trans hG3⟩
    unfold lOwn
    rw [Hel.out, ← HiA.out]
    exact HO3.out
  · rw [if_neg hce] at Hat
    go_enter Try.func41, Try.ntmps41
    go_wp2_with fail
    refine Rg.region_plan 6 [0, 1, 2, 3, 4, 5] [] [] (Below.drew (Below.refl _ _)) (by kernel_rfl) (by kernel_rfl) (fun _ _ d _ _ h => by cases d <;> exact h) ?_
    simp only [Rg.opsAt, List.append_eq, List.cons_append, List.nil_append, List.filterMap_cons, List.filterMap_nil, List.getElem?_toArray, List.getElem?_cons_zero, List.getElem?_cons_succ, List.drop_succ_cons, List.drop_zero]
    repeat (first
        | (refine Rg.wpDets_skip (by rfl) ?_; simp only [Act.put, List.setIfInBounds_toArray, List.set_cons_zero, List.set_cons_succ])
        | (refine Rg.wpDets_step ?_ (by rfl) (fun w hS => ?_) ?_
           rotate_left
           · have hc := Gr.cells hS
             have hf := Gr.frees hS
             go_simp
             first
             | (refine ⟨?_, Below.refl _ _⟩; with_reducible rfl)
           simp only [Act.put, List.setIfInBounds_toArray, List.set_cons_zero, List.set_cons_succ]))
    refine Rg.wpDets_nil ?_
    refine Rg.wpFlts_nil ?_
    refine Rg.wpLays_nil ?_
    intro w' hK
    have hg : Gr _ w' := hK.up
    have hc := hg.cells
    have hf := hg.frees
    have hz := hg.size
    try simp only [World.size_alloc, World.size_setCell, World.size_drew] at hz
    try have : 0 < w'.heap.size := by omega
    try have : w.heap.size < w'.heap.size := by omega
    try have : w.heap.size + 1 < w'.heap.size := by omega
    try have : w.heap.size + 1 + 1 < w'.heap.size := by omega
    try have : w.heap.size + 1 + 1 + 1 < w'.heap.size := by omega
    go_wp2_with (at_builtin; refine wpList_append_fits _ rfl _ _ 80 rfl base 82 i0 2 Try.underlying80 hi hz1 g i (cap) (cellsF lF (l.take i)) rfl (own_gr Hpre.out hg) ⟨g, (i + 1) * 2, none⟩ (n - (i + 1)) (cap - (i + 1)) (cellsF lF (l.drop (i + 1))) rfl ?xb1 ?xb2 hone.out ?xb4 ?_)
    case xb1 => exact Hnews.out
    case xb2 => exact Hat.out _ hg _ rfl
    case xb4 => omega
    intro w2 hown2 hg2
    rw [Hnm.out, Hcells.out] at hown2
    rw [Hnm.out]
    have hG2 : Gz (.slice (some ⟨g, 0, none⟩) n (cap)) w w2 := Gz.trans (.of hg) hg2
    have hcl : ∀ ty, (Builtin.clear_ #[80] ty #[.slice (some ⟨g, m * 2, none⟩) (n - m) (cap - m)]).run Try.prog w2 = .ok (.tuple #[]) (w2.setCells g (m * 2) [.int .i64 0, .int .i64 0]) := fun ty => by
      rw [Hn1.out]
      exact run_clear_one w2 80 82 ty _ Try.underlying80 lzero (by intro v hv; simp [Value.cells] at hv; subst hv; rfl) g (m * 2) (cap - m) (fun j hj => (own_room hown2 _ (by have : j < 2 := hj; omega)).1) (fun j hj => (own_room hown2 _ (by have : j < 2 := hj; omega)).2)
    obtain ⟨hO3, hG3⟩ := own_beyond hown2 [.int .i64 0, .int .i64 0] (m * 2) (Nat.le_refl _)
    generalize w2.setCells g (m * 2) [.int .i64 0, .int .i64 0] = w3 at *
    have HO3 := hid hO3
    clear hown2 hg2 hO3 hc hf hz
    go_wp2
    go_ret
    refine ⟨by rw [Hel.out]; rfl, ?_, hG2.trans hG3⟩
    unfold lOwn
    rw [Hel.out]
    exact HO3.out
end Go.Proofs.Ytmanokhadppeeaa
