/- value.Sum over a row of numbers and nulls. -/
import Derived.Test.YtefdkpfndjlpgaaDoorLx
import Derived.Test.YtefdkpfndjlpgaaDoorSm
namespace Go.Proofs.YtefdkpfndjlpgaaDoor
open Go.RowKit
set_option linter.unusedSimpArgs false
set_option linter.unusedVariables false
attribute [local go_sem] Rg.once_normal Rg.once_exit Rg.once_ret Rg.once_panic Rg.once_goto Rg.leads_value Rg.leads_skip Rg.leads_enter Rg.brings_value Rg.brings_skip Rg.brings_enter
/-- the sum of the numbers of a row -/
def sumL : List V → Int
  | [] => 0
  | v :: r => (if v.t == 1 then v.n else 0) + sumL r
def anyL (l : List V) : Bool := l.any fun v => v.t == 1
def sumR (l : List V) : V × Int := if anyL l then (if Vl.fitsB (sumL l) then (numV (sumL l), 0) else (nul, 161)) else (nul, 0)
theorem sumL_app (l : List V) (v : V) : sumL (l ++ [v]) = sumL l + (if v.t == 1 then v.n else 0) := by
  induction l with
  | nil => simp [sumL]
  | cons x r ih => simp only [List.cons_append, sumL, ih]; omega
theorem sumL_take (l : List V) (k : Nat) (h : k < l.length) : sumL (l.take (k + 1)) = sumL (l.take k) + (if l[k].t == 1 then l[k].n else 0) := by
  rw [List.take_succ_eq_append_getElem h, sumL_app]
theorem anyL_take (l : List V) (k : Nat) (h : k < l.length) : anyL (l.take (k + 1)) = (anyL (l.take k) || l[k].t == 1) := by
  unfold anyL
  rw [List.take_succ_eq_append_getElem h, List.any_append]
  simp only [List.any_cons, List.any_nil, Bool.or_false]
theorem typedFrom_true : ∀ (l : List V) (nl : Bool), (∀ v ∈ l, v.t = 0 ∨ v.t = 1) → (typedFrom 1 l nl).1 = true
  | [], _, _ => rfl
  | v :: r, nl, h => by
    have h1 := h v (by simp)
    have h2 : (v.t == 1 || v.t == 0) = true := by rcases h1 with h1 | h1 <;> simp [h1]
    unfold typedFrom
    rw [if_pos h2]
    exact typedFrom_true r _ fun u hu => h u (by simp [hu])
theorem sum_bound : ∀ (l : List V), (∀ v ∈ l, Vl.fitsB v.n = true) → -(9223372036854775808 * (l.length : Int)) ≤ sumL l ∧ sumL l ≤ 9223372036854775808 * (l.length : Int)
  | [], _ => by simp [sumL]
  | v :: r, h => by
    have h1 := (Vl.fits_iff _).1 (h v (by simp))
    have h2 := sum_bound r fun u hu => h u (by simp [hu])
    simp only [sumL, List.length_cons]
    split <;> omega
set_option maxHeartbeats 1000000 in
set_option maxRecDepth 100000 in
theorem sum_any (l : List V) (g c : Nat) (w : World) (hl : l.length ≤ 4611686018427387904) (hrow : VRow w g l) (hn : ∀ v ∈ l, (v.t = 0 ∨ v.t = 1) ∧ Vl.fitsB v.n = true) :
    Calls Tryd.prog 23 #[.slice (some ⟨g, 0, none⟩) l.length c] w fun e w' => e = pairR (sumR l) ∧ Gr w w' := by
  have T : ∀ W, Gr w W → Calls Tryd.prog 33 #[.int .i64 1, .slice (some ⟨g, 0, none⟩) l.length c] W fun e w' => e = .returned (.tuple #[.bool true, .bool (typedB 1 l).2]) ∧ Gr W w' := fun W h => by
    have := typed_any 1 l g c W hl (hrow.keep h)
    rwa [show (typedB 1 l).1 = true from typedFrom_true l false fun v hv => (hn v hv).1] at this
  obtain ⟨RR, hRR⟩ : ∃ R, R = sumR l := ⟨_, rfl⟩
  rw [← hRR]
  have HR := hid hRR
  clear hRR
  generalize (typedB 1 l).2 = nb at *
  go_enter Tryd.func23, Tryd.ntmps23
  go_wp2_with fail
  refine (T _ ((Gr.refl w).alloc _)).mono ?_
  rintro e w1 ⟨rfl, hg⟩
  have hc := Gr.cells hg
  have hf := Gr.frees hg
  have hz := Gr.size hg
  try simp only [World.size_alloc, World.size_setCell, World.size_drew] at hz
  try have : 0 < w1.heap.size := by omega
  try have : w.heap.size < w1.heap.size := by omega
  try have : w.heap.size + 1 < w1.heap.size := by omega
  have v0 : Holds w1 w.heap.size nul := Holds.keep (holds_new w) hg
  have hg1 : Gr w w1 := ((Gr.refl w).alloc _).trans hg
  clear hc hf T
  go_wp2_with fail
  go_loopw [4, 5, 6, 7, 24] (fun s4 s5 s6 s7 i wr => ∃ (k h lw cy : Nat), s4 = .int .u64 h ∧ s5 = .int .u64 lw ∧ s6 = .int .u64 cy ∧ s7 = .bool (anyL (l.take k)) ∧ i = .int .i64 k ∧ k ≤ l.length ∧ Vl.Tells h lw (sumL (l.take k)) ∧ Gr w1 wr) (fun _ _ _ _ i _ => l.length - (intOf i).toNat)
  case atStart => exact ⟨0, 0, 0, 0, rfl, rfl, rfl, rfl, rfl, Nat.zero_le _, Vl.Tells.zero, Gr.refl _⟩
  case round =>
    obtain ⟨k, h, lw, cy, rfl, rfl, rfl, rfl, rfl, hk, ht, hgr⟩ := hrel
    by_cases hlt : k < l.length
    · have hgt := hg1.trans hgr
      obtain ⟨v, hv⟩ : ∃ v, v = l[k] := ⟨_, rfl⟩
      have c0 : _ = some (Value.int .i64 v.t) := hgt.keep (hrow k 0 _ hlt (by rw [← hv]; rfl))
      have c1 : _ = some (Value.int .i64 v.n) := hgt.keep (hrow k 1 _ hlt (by rw [← hv]; rfl))
      have c2 : _ = some (Value.string v.s) := hgt.keep (hrow k 2 _ hlt (by rw [← hv]; rfl))
      have c3 : _ = some (Value.bool v.b) := hgt.keep (hrow k 3 _ hlt (by rw [← hv]; rfl))
      have hs := sumL_take l k hlt
      have hb := anyL_take l k hlt
      obtain ⟨hvt, hvn⟩ := hn v (by rw [hv]; exact List.getElem_mem hlt)
      rw [← hv] at hs hb
      clear hv
      simp only [Nat.add_zero] at c0
      obtain ⟨x, n, sx, b⟩ := v
      simp only at c0 c1 c2 c3 hs hb hvt hvn
      have H := hid (And.intro ht (And.intro hs hb))
      clear ht hs hb
      rcases hvt with rfl | rfl
      · go_wp2
        obtain ⟨ht, hs, hb⟩ := H.out
        refine ⟨⟨k + 1, h, lw, cy, rfl, rfl, rfl, by rw [hb]; simp, by go_num, by omega, by rw [hs]; simpa using ht, hgr.alloc _⟩, by simp [intOf]; omega⟩
      · have ht := H.out.1
        have b1 := ht.1
        have b2 := ht.2.1
        have hA := ht.add hvn
        have lh : Vl.hi n < 18446744073709551616 := by unfold Vl.hi; split <;> omega
        have ll : Vl.lo n < 18446744073709551616 := by have := Vl.lo_val n; omega
        have HA := hid hA
        clear hA ht
        have A1 := fun W => add64_run lw (Vl.lo n) 0 (by omega) W
        have A2 := fun W => add64_run h (Vl.hi n) ((lw + Vl.lo n + 0) / 18446744073709551616) (by omega) W
        simp only [Nat.add_zero, Int.natCast_zero] at A1 A2
        have Wd := fun W => wide_any n W hvn
        generalize (h + Vl.hi n + (lw + Vl.lo n) / 18446744073709551616) % 18446744073709551616 = sh at *
        generalize (h + Vl.hi n + (lw + Vl.lo n) / 18446744073709551616) / 18446744073709551616 = sc at *
        generalize (lw + Vl.lo n) % 18446744073709551616 = sl at *
        generalize (lw + Vl.lo n) / 18446744073709551616 = sd at *
        go_wp2_with fail
        refine (Wd _).mono ?_
        rintro e w' ⟨rfl, rfl⟩
        go_wp2
        have hA := HA.out
        obtain ⟨-, hs, hb⟩ := H.out
        refine ⟨⟨k + 1, sh, sl, sd, rfl, rfl, rfl, by rw [hb]; simp, by go_num, by omega, by rw [hs]; simpa using hA, hgr.alloc _⟩, by simp [intOf]; omega⟩
    · obtain rfl : k = l.length := by omega
      have Cw := fun W => whole_any h lw W ht.1 ht.2.1
      rw [List.take_length] at ht ⊢
      have hbd := sum_bound l fun v hv => (hn v hv).2
      have hwr := ht.whole (by omega) (by omega)
      have H : Hid (wholeR h lw = if Vl.fitsB (sumL l) then (numV (sumL l), 0) else (nul, 161)) := hid (by
        unfold wholeR
        rw [hwr.1]
        cases hf : Vl.fitsB (sumL l)
        · rfl
        · rw [hwr.2 hf])
      clear ht hwr hbd
      have HQ : RR = if anyL l then wholeR h lw else (nul, 0) := by rw [HR.out, H.out]; rfl
      obtain ⟨z0, z1, z2, z3, zf⟩ := v0.keep hgr
      simp only [nul] at z0 z1 z2 z3
      have e0 : w.heap.size < wr.heap.size := lt_of_cell z0
      generalize wholeR h lw = R at *
      obtain ⟨⟨rt, rn, rs, rb⟩, re⟩ := R
      clear H HR
      generalize anyL l = ab at *
      cases ab
      · simp only [Bool.false_eq_true, if_false] at HQ
        subst HQ
        go_wp2
        refine bodyPost_ret (by simp [results, Tryd.results23, go_sem, z0, z1, z2, z3, e0, pairR, nul]) rfl ⟨rfl, ?_⟩
        exact ((((hg1.trans hgr).setCell (by simp) _).setCell (by simp) _).setCell (by simp) _).setCell (by simp) _
      · simp only [if_true] at HQ
        subst HQ
        simp only [pairR] at Cw
        go_wp2_with fail
        refine (Cw _).mono ?_
        rintro e w2 ⟨rfl, hg⟩
        have hc := Gr.cells hg
        have hf := Gr.frees hg
        have hz := Gr.size hg
        try simp only [World.size_alloc, World.size_setCell, World.size_drew] at hz
        try have : 0 < w2.heap.size := by omega
        try have : w.heap.size < w2.heap.size := by omega
        try have : w.heap.size + 1 < w2.heap.size := by omega
        try have : w1.heap.size < w2.heap.size := by omega
        try have : w1.heap.size + 1 < w2.heap.size := by omega
        have y0 := hg.keep z0
        have y1 := hg.keep z1
        have y2 := hg.keep z2
        have y3 := hg.keep z3
        have e1 : w.heap.size < w2.heap.size := lt_of_cell y0
        go_wp2
        refine bodyPost_ret (by simp [results, Tryd.results23, go_sem, y0, y1, y2, y3, e1, pairR]) rfl ⟨rfl, ?_⟩
        exact (((((hg1.trans hgr).trans hg).setCell (by simp) _).setCell (by simp) _).setCell (by simp) _).setCell (by simp) _
end Go.Proofs.YtefdkpfndjlpgaaDoor
