/- ValueSums: the law's walk. -/
import Derived.Test.YtefdkpfndjlpgaaDoorSv
import Derived.Test.YtefdkpfndjlpgaaDoorGrow
import Derived.Test.YtefdkpfndjlpgaaDoorGrow2
import Derived.Test.YtefdkpfndjlpgaaDoorRt
import Derived.Test.YtefdkpfndjlpgaaDoorSp
import Derived.OwnWalk
import Derived.BigRegion
import Derived.ChangeAlike
namespace Go.Proofs.YtefdkpfndjlpgaaDoor
open Go.RowKit
attribute [local go_sem] Rg.once_normal Rg.once_exit Rg.once_ret Rg.once_panic Rg.once_goto Rg.leads_value Rg.leads_skip Rg.leads_enter Rg.brings_value Rg.brings_skip Rg.brings_enter
set_option linter.unusedSimpArgs false
set_option linter.unusedVariables false
/-- the cells of a row of numbers -/
def vCells (zs : List Int) : List Value := zs.flatMap fun n => (numV n).cells.toList
theorem vCells_cons (x : Int) (r : List Int) : vCells (x :: r) = .int .i64 1 :: .int .i64 x :: .string ⟨#[]⟩ :: .bool false :: vCells r := rfl
theorem vCells_len : ∀ zs : List Int, (vCells zs).length = zs.length * 4
  | [] => rfl
  | x :: r => by rw [vCells_cons]; simp only [List.length_cons]; rw [vCells_len r]; omega
theorem vCells_snoc (zs : List Int) (x : Int) : vCells (zs ++ [x]) = vCells zs ++ [.int .i64 1, .int .i64 x, .string ⟨#[]⟩, .bool false] := by
  simp [vCells, numV, V.cells]
theorem vCells_get : ∀ (zs : List Int) (k i : Nat) (u : Value) (h : k < zs.length), (numV zs[k]).cells[i]? = some u → (vCells zs)[k * 4 + i]? = some u
  | [], k, _, _, h, _ => by simp at h
  | x :: r, 0, i, u, _, hu => by
    rw [vCells_cons, Nat.zero_mul, Nat.zero_add]
    have hi : i < 4 := by
      have := (Array.getElem?_eq_some_iff.1 hu).1
      simpa [V.cells] using this
    match i, hi, hu with
    | 0, _, hu => exact hu
    | 1, _, hu => exact hu
    | 2, _, hu => exact hu
    | 3, _, hu => exact hu
  | x :: r, k + 1, i, u, h, hu => by
    rw [vCells_cons, show (k + 1) * 4 + i = k * 4 + i + 1 + 1 + 1 + 1 by omega]
    simp only [List.getElem?_cons_succ]
    exact vCells_get r k i u (by simpa using h) (by simpa using hu)
theorem vCells_set : ∀ (zs : List Int) (k : Nat) (x : Int), ((((vCells zs).set (k * 4) (.int .i64 1)).set (k * 4 + 1) (.int .i64 x)).set (k * 4 + 2) (.string ⟨#[]⟩)).set (k * 4 + 3) (.bool false) = vCells (zs.set k x)
  | [], k, x => by simp [vCells]
  | y :: r, 0, x => rfl
  | y :: r, k + 1, x => by
    simp only [List.set_cons_succ, vCells_cons]
    rw [show (k + 1) * 4 = k * 4 + 1 + 1 + 1 + 1 by omega, show k * 4 + 1 + 1 + 1 + 1 + 1 = k * 4 + 1 + 1 + 1 + 1 + 1 from rfl,
      show k * 4 + 1 + 1 + 1 + 1 + 2 = k * 4 + 2 + 1 + 1 + 1 + 1 by omega, show k * 4 + 1 + 1 + 1 + 1 + 3 = k * 4 + 3 + 1 + 1 + 1 + 1 by omega, show k * 4 + 1 + 1 + 1 + 1 + 1 = k * 4 + 1 + 1 + 1 + 1 + 1 from rfl]
    simp only [List.set_cons_succ]
    rw [vCells_set r k x]
/-- a slice of ints that reads as a list -/
def Ints (w : World) (oa : Option Addr) (xs : List Int) : Prop := ∀ k (h : k < xs.length), ∃ ad, oa = some ad ∧ ad.block < w.heap.size ∧ w.cell? (ad.add k) = some (.int .i64 xs[k])
theorem add_block (a : Addr) (k : Nat) : (a.add k).block = a.block := by unfold Addr.add; split <;> rfl
theorem Ints.keep {w w' : World} {oa : Option Addr} {xs : List Int} (h : Ints w oa xs) (hg : Gr w w') : Ints w' oa xs := fun k hk => by
  obtain ⟨ad, e, hb, hc⟩ := h k hk
  exact ⟨ad, e, Nat.lt_of_lt_of_le hb hg.size, by rw [Below.cell hg (by rw [add_block]; exact hb)]; exact hc⟩
theorem v_info : (Tryd.prog.info? 23).map (fun i => (i.zero, i.size, i.bytes)) = some (some (.agg #[.int .i64 0, .int .i64 0, .string ⟨#[]⟩, .bool false]), 4, 40) := by kernel_rfl
theorem cell_one (W : World) (cs : Array Value) (T : TypeId) (l : List Value) (h : cs.toList = l) : ∀ j u, l[j]? = some u → (W.alloc (.cells cs T)).cell? ((⟨W.heap.size, 0, none⟩ : Addr).add j) = some u := by
  intro j u hu
  have hadd : (⟨W.heap.size, 0, none⟩ : Addr).add j = ⟨W.heap.size, j, none⟩ := by unfold Addr.add; split <;> simp_all
  rw [hadd, cell_of_row _ _ _ _ _ _ (heap_alloc_new W _), ← hu, ← h]
  simp
/-- what grew an owned row alone leaves what stood before -/
theorem Gr.grown {w wr w' : World} {row : Option Nat} (h : Gr w wr) (hg : wr.grownBy w' row) (hrow : ∀ k, row = some k → w.heap.size ≤ k) : Gr w w' :=
  Below.grown h hg h.size hrow
theorem Gr.only {a w : World} (h : Gr a w) (row : Option Nat) : a.grownBy w row := ⟨h.os, h.tape, h.output, h.size, fun i hi _ => h.block i hi⟩
theorem own_keep {w w' : World} {base n : Nat} {v : Value} {zs : List Value} (h : w.ownsRow base 23 4 v n zs) (hg : Gr w w') : w'.ownsRow base 23 4 v n zs :=
  h.kept (row := none) (hg.only _) (by cases v.ownBlock <;> simp)
theorem own_form {w : World} {base n : Nat} {v : Value} {zs : List Value} (h : w.ownsRow base 23 4 v n zs) (hn : 0 < n) : ∃ g cap, v = .slice (some ⟨g, 0, none⟩) n cap ∧ base ≤ g ∧ g < w.heap.size := by
  rcases h.2 with ⟨_, rfl⟩ | ⟨g, cap, cur, rfl, hb, hg, _⟩
  · omega
  · exact ⟨g, cap, rfl, hb, (Array.getElem?_eq_some_iff.1 hg).1⟩
theorem vCells_one (zs : List Int) : ∀ u ∈ vCells zs, u.oneCell' = true := by
  intro u hu
  obtain ⟨n, _, hm⟩ := List.mem_flatMap.1 hu
  simp [V.cells] at hm
  rcases hm with rfl | rfl | rfl | rfl <;> rfl
theorem own_cells {w : World} {base g cap : Nat} {zs : List Int} (h : w.ownsRow base 23 4 (.slice (some ⟨g, 0, none⟩) zs.length cap) zs.length (vCells zs)) (k : Nat) (hk : k < zs.length) (z : Int) (hz : z = zs[k]) :
    w.cell? ⟨g, k * 4, none⟩ = some (.int .i64 1) ∧ w.cell? ⟨g, k * 4 + 1, none⟩ = some (.int .i64 z) ∧ w.cell? ⟨g, k * 4 + 2, none⟩ = some (.string ⟨#[]⟩) ∧ w.cell? ⟨g, k * 4 + 3, none⟩ = some (.bool false) := by
  subst hz
  refine ⟨?_, ?_, ?_, ?_⟩
  · rw [h.cellAt _ (by omega)]; exact vCells_get zs k 0 _ hk rfl
  · rw [h.cellAt _ (by omega)]; exact vCells_get zs k 1 _ hk rfl
  · rw [h.cellAt _ (by omega)]; exact vCells_get zs k 2 _ hk rfl
  · rw [h.cellAt _ (by omega)]; exact vCells_get zs k 3 _ hk rfl
theorem own_put {w : World} {base g cap : Nat} {n : Nat} {zs : List Int} (h : w.ownsRow base 23 4 (.slice (some ⟨g, 0, none⟩) n cap) n (vCells zs)) (k : Nat) (x : Int) :
    ((((w.setCell ⟨g, k * 4, none⟩ (.int .i64 1)).setCell ⟨g, k * 4 + 1, none⟩ (.int .i64 x)).setCell ⟨g, k * 4 + 2, none⟩ (.string ⟨#[]⟩)).setCell ⟨g, k * 4 + 3, none⟩ (.bool false)).ownsRow base 23 4 (.slice (some ⟨g, 0, none⟩) n cap) n (vCells (zs.set k x)) := by
  rw [← vCells_set]
  exact ((((h.stored _ _).1.stored _ _).1.stored _ _).1.stored _ _).1
theorem mod_in (y : Int) (n : Nat) (h : 0 < n) (h2 : n ≤ 200) : ∃ K : Nat, K < n ∧ (wrap64 (y.tmod (n : Int) + (n : Int))).tmod (n : Int) = (K : Int) := by
  have h1 := Int.tmod_lt_of_pos y (show (0 : Int) < n by omega)
  have h3 := Int.lt_tmod_of_pos y (show (0 : Int) < n by omega)
  generalize y.tmod (n : Int) = r at *
  have e : wrap64 (r + n) = r + n := by
    simp only [wrap64]; omega
  rw [e, Int.tmod_eq_emod_of_nonneg (by omega)]
  have h4 := Int.emod_nonneg (r + n) (show (n : Int) ≠ 0 by omega)
  have h5 := Int.emod_lt_of_pos (r + n) (show (0 : Int) < n by omega)
  exact ⟨((r + n) % n).toNat, by omega, by omega⟩
/-- what a swap needs, and what it leaves -/
theorem swap_pack {w : World} {base g cap n : Nat} {zs : List Int} {S : Int} (hzs : zs.length = n ∧ Vl.sumF (fun x => x) zs = S ∧ ∀ z ∈ zs, Vl.fitsB z = true) (h : w.ownsRow base 23 4 (.slice (some ⟨g, 0, none⟩) n cap) n (vCells zs)) (k K : Nat) (hk : k < n) (hK : K < n) :
    ∃ u v : Int, (w.cell? ⟨g, k * 4, none⟩ = some (.int .i64 1) ∧ w.cell? ⟨g, k * 4 + 1, none⟩ = some (.int .i64 u) ∧ w.cell? ⟨g, k * 4 + 2, none⟩ = some (.string ⟨#[]⟩) ∧ w.cell? ⟨g, k * 4 + 3, none⟩ = some (.bool false)) ∧
      (w.cell? ⟨g, K * 4, none⟩ = some (.int .i64 1) ∧ w.cell? ⟨g, K * 4 + 1, none⟩ = some (.int .i64 v) ∧ w.cell? ⟨g, K * 4 + 2, none⟩ = some (.string ⟨#[]⟩) ∧ w.cell? ⟨g, K * 4 + 3, none⟩ = some (.bool false)) ∧
      Hid (((zs.set k v).set K u).length = n ∧ Vl.sumF (fun x => x) ((zs.set k v).set K u) = S ∧ ∀ z ∈ (zs.set k v).set K u, Vl.fitsB z = true) := by
  obtain ⟨rfl, hs, hf⟩ := hzs
  refine ⟨zs[k], zs[K], own_cells h k hk _ rfl, own_cells h K hK _ rfl, hid ⟨by simp, ?_, ?_⟩⟩
  · rw [Vl.sumF_swap _ zs k K hk hK]; exact hs
  · intro z hz
    rcases List.mem_or_eq_of_mem_set hz with hz | rfl
    · rcases List.mem_or_eq_of_mem_set hz with hz | rfl
      · exact hf _ hz
      · exact hf _ (List.getElem_mem hK)
    · exact hf _ (List.getElem_mem hk)
theorem own_other {w : World} {base ga gb n cap : Nat} {l : List Value} (h : w.ownsRow base 23 4 (.slice (some ⟨ga, 0, none⟩) n cap) n l) (hne : ¬ ga = gb) (j : Nat) (u : Value) :
    (w.setCell ⟨gb, j, none⟩ u).ownsRow base 23 4 (.slice (some ⟨ga, 0, none⟩) n cap) n l :=
  h.kept (row := some gb) ⟨rfl, rfl, rfl, by simp, fun k _ hk => heap_setCell_other w ⟨gb, j, none⟩ k u (fun e => hk (by simp [e]))⟩ (.inr (by simp [Value.ownBlock]; exact hne))
theorem own_other4 {w : World} {base ga gb n cap : Nat} {l : List Value} (h : w.ownsRow base 23 4 (.slice (some ⟨ga, 0, none⟩) n cap) n l) (hne : ¬ ga = gb) (a b c d : Nat) (x y z t : Value) :
    ((((w.setCell ⟨gb, a, none⟩ x).setCell ⟨gb, b, none⟩ y).setCell ⟨gb, c, none⟩ z).setCell ⟨gb, d, none⟩ t).ownsRow base 23 4 (.slice (some ⟨ga, 0, none⟩) n cap) n l :=
  own_other (own_other (own_other (own_other h hne _ _) hne _ _) hne _ _) hne _ _
theorem Gr.set4' {a w : World} {g : Nat} (h : Gr a w) (hg : a.heap.size ≤ g) (i j k l : Nat) (x0 x1 x2 x3 : Value) : Gr a ((((w.setCell ⟨g, i, none⟩ x0).setCell ⟨g, j, none⟩ x1).setCell ⟨g, k, none⟩ x2).setCell ⟨g, l, none⟩ x3) :=
  (((h.setCell hg x0).setCell hg x1).setCell hg x2).setCell hg x3
theorem cell_two (W : World) (o : Obj) (cs : Array Value) (T : TypeId) (l : List Value) (h : cs.toList = l) : ∀ j u, l[j]? = some u → ((W.alloc o).alloc (.cells cs T)).cell? ((⟨W.heap.size + 1, 0, none⟩ : Addr).add j) = some u := by
  have := cell_one (W.alloc o) cs T l h
  rwa [World.size_alloc] at this
theorem nul_one : ∀ u ∈ ([.int .i64 0, .int .i64 0, .string ⟨#[]⟩, .bool false] : List Value), u.oneCell' = true := by
  intro u hu; simp at hu; rcases hu with rfl | rfl | rfl <;> rfl
/-- a value's cells, row by row -/
def lCells (l : List V) : List Value := l.flatMap fun v => v.cells.toList
theorem lCells_cons (v : V) (r : List V) : lCells (v :: r) = .int .i64 v.t :: .int .i64 v.n :: .string v.s :: .bool v.b :: lCells r := rfl
theorem lCells_get : ∀ (l : List V) (k i : Nat) (u : Value) (h : k < l.length), l[k].cells[i]? = some u → (lCells l)[k * 4 + i]? = some u
  | [], k, _, _, h, _ => by simp at h
  | x :: r, 0, i, u, _, hu => by
    rw [lCells_cons, Nat.zero_mul, Nat.zero_add]
    have hi : i < 4 := by
      have := (Array.getElem?_eq_some_iff.1 hu).1
      simpa [V.cells] using this
    match i, hi, hu with
    | 0, _, hu => exact hu
    | 1, _, hu => exact hu
    | 2, _, hu => exact hu
    | 3, _, hu => exact hu
  | x :: r, k + 1, i, u, h, hu => by
    rw [lCells_cons, show (k + 1) * 4 + i = k * 4 + i + 1 + 1 + 1 + 1 by omega]
    simp only [List.getElem?_cons_succ]
    exact lCells_get r k i u (by simpa using h) (by simpa using hu)
theorem lCells_nums : ∀ zs : List Int, lCells (zs.map numV) = vCells zs
  | [] => rfl
  | x :: r => by rw [List.map_cons, lCells_cons, vCells_cons, lCells_nums r]; rfl
theorem own_vrow {w : World} {base g cap : Nat} {l : List V} (h : w.ownsRow base 23 4 (.slice (some ⟨g, 0, none⟩) l.length cap) l.length (lCells l)) : VRow w g l := fun k i u hk hu => by
  have hi : i < 4 := by
    have := (Array.getElem?_eq_some_iff.1 hu).1
    simpa [V.cells] using this
  rw [h.cellAt _ (by omega)]
  exact lCells_get l k i u hk hu
/-- what a sum tells -/
def resR (S : Int) : V × Int := if Vl.fitsB S then (numV S, 0) else (nul, 161)
theorem sumL_nums : ∀ zs : List Int, sumL (zs.map numV) = Vl.sumF (fun x => x) zs
  | [] => rfl
  | x :: r => by rw [List.map_cons]; simp only [sumL, Vl.sumF, sumL_nums r]; rfl
theorem sumR_nums (zs : List Int) (h : 0 < zs.length) : sumR (zs.map numV) = resR (Vl.sumF (fun x => x) zs) := by
  unfold sumR resR
  rw [sumL_nums]
  have : anyL (zs.map numV) = true := by
    cases zs with
    | nil => simp at h
    | cons x r => simp [anyL, numV]
  rw [this, if_pos rfl]
theorem sumR_nums_nul (zs : List Int) (h : 0 < zs.length) : sumR (zs.map numV ++ [nul]) = resR (Vl.sumF (fun x => x) zs) := by
  unfold sumR resR
  rw [sumL_app, sumL_nums]
  have : anyL (zs.map numV ++ [nul]) = true := by
    cases zs with
    | nil => simp at h
    | cons x r => simp [anyL, numV]
  rw [this, if_pos rfl, show Vl.sumF (fun x => x) zs + (if (nul.t == 1) = true then nul.n else 0) = Vl.sumF (fun x => x) zs by simp [nul]]
theorem sum_row (xs : List Int) (base ga cap : Nat) (w : World) (h : w.ownsRow base 23 4 (.slice (some ⟨ga, 0, none⟩) xs.length cap) xs.length (vCells xs)) (hf : ∀ x ∈ xs, Vl.fitsB x = true) (hn : xs.length ≤ 200) (hpos : 0 < xs.length) :
    Calls Tryd.prog 23 #[.slice (some ⟨ga, 0, none⟩) xs.length cap] w fun e w' => e = pairR (resR (Vl.sumF (fun x => x) xs)) ∧ Gr w w' := by
  rw [← sumR_nums xs hpos]
  have hl : (xs.map numV).length = xs.length := by simp
  have := sum_any (xs.map numV) ga cap w (by omega) (own_vrow (base := base) (cap := cap) (by rw [hl, lCells_nums]; exact h)) (by
    intro v hv
    obtain ⟨x, hx, rfl⟩ := List.mem_map.1 hv
    exact ⟨.inr rfl, hf x hx⟩)
  rwa [hl] at this
theorem sum_row_nul (xs : List Int) (base ga cap : Nat) (w : World) (h : w.ownsRow base 23 4 (.slice (some ⟨ga, 0, none⟩) (xs.length + 1) cap) (xs.length + 1) (vCells xs ++ [.int .i64 0, .int .i64 0, .string ⟨#[]⟩, .bool false])) (hf : ∀ x ∈ xs, Vl.fitsB x = true) (hn : xs.length ≤ 200) (hpos : 0 < xs.length) :
    Calls Tryd.prog 23 #[.slice (some ⟨ga, 0, none⟩) (xs.length + 1) cap] w fun e w' => e = pairR (resR (Vl.sumF (fun x => x) xs)) ∧ Gr w w' := by
  rw [← sumR_nums_nul xs hpos]
  have hl : (xs.map numV ++ [nul]).length = xs.length + 1 := by simp
  have hc : lCells (xs.map numV ++ [nul]) = vCells xs ++ [.int .i64 0, .int .i64 0, .string ⟨#[]⟩, .bool false] := by
    unfold lCells
    rw [List.flatMap_append]
    have := lCells_nums xs
    unfold lCells at this
    rw [this]
    rfl
  have := sum_any (xs.map numV ++ [nul]) ga cap w (by omega) (own_vrow (base := base) (cap := cap) (by rw [hl, hc]; exact h)) (by
    intro v hv
    rcases List.mem_append.1 hv with hv | hv
    · obtain ⟨x, hx, rfl⟩ := List.mem_map.1 hv
      exact ⟨.inr rfl, hf x hx⟩
    · obtain rfl : v = nul := by simpa using hv
      exact ⟨.inl rfl, by decide⟩)
  rwa [hl] at this
theorem res_cases (S A B : Int) (h : S = A * 4294967296 + B) : (-2147483648 ≤ A + B / 4294967296 ∧ A + B / 4294967296 < 2147483648 ∧ resR S = (numV S, 0) ∧ bits .or .i64 ((A + B / 4294967296) * 4294967296) (B % 4294967296) = S) ∨
    (A + B / 4294967296 < -2147483648 ∧ resR S = (nul, 161)) ∨ (2147483648 ≤ A + B / 4294967296 ∧ resR S = (nul, 161)) := by
  unfold resR
  by_cases h1 : A + B / 4294967296 < -2147483648
  · have : Vl.fitsB S = false := by
      rw [← Bool.not_eq_true, Vl.fits_iff]; omega
    rw [this]; exact .inr (.inl ⟨h1, rfl⟩)
  · by_cases h2 : 2147483648 ≤ A + B / 4294967296
    · have : Vl.fitsB S = false := by
        rw [← Bool.not_eq_true, Vl.fits_iff]; omega
      rw [this]; exact .inr (.inr ⟨h2, rfl⟩)
    · have : Vl.fitsB S = true := by
        rw [Vl.fits_iff]; omega
      rw [this]
      refine .inl ⟨by omega, by omega, rfl, ?_⟩
      rw [Vl.or_parts _ _ (by omega) (by omega) (by omega) (by omega)]; omega
set_option maxHeartbeats 2000000 in
set_option maxRecDepth 100000 in
theorem typed_nil (kind : Int) (w : World) :
    Calls Tryd.prog 33 #[.int .i64 kind, .slice none 0 0] w fun e w' => e = .returned (.tuple #[.bool true, .bool false]) ∧ Gr w w' := by
  go_enter Tryd.func33, Tryd.ntmps33
  go_wp2
  go_loopw [5, 10] (fun nl i wr => i = .int .i64 0 ∧ nl = .bool false ∧ Gr w wr) (fun _ i _ => 0)
  case atStart => exact ⟨rfl, rfl, Gr.refl _⟩
  case round =>
    obtain ⟨rfl, rfl, hg⟩ := hrel
    go_wp2
    go_ret2
    exact ⟨rfl, hg⟩
set_option maxHeartbeats 2000000 in
set_option maxRecDepth 100000 in
theorem sum_nil (w : World) :
    Calls Tryd.prog 23 #[.slice none 0 0] w fun e w' => e = pairR (nul, 0) ∧ Gr w w' := by
  have T := fun W => typed_nil 1 W
  go_enter Tryd.func23, Tryd.ntmps23
  go_wp2_with fail
  refine (T _).mono ?_
  rintro e w1 ⟨rfl, hg⟩
  have hc := Gr.cells hg
  have hf := Gr.frees hg
  have hz := Gr.size hg
  try simp only [World.size_alloc, World.size_setCell, World.size_drew] at hz
  try have : 0 < w1.heap.size := by omega
  try have : w.heap.size < w1.heap.size := by omega
  try have : w.heap.size + 1 < w1.heap.size := by omega
  have v0 : Holds w1 w.heap.size nul := Holds.keep (holds_new w) hg
  have hg1 : Gr w w1 := ((Gr.refl w).alloc _).trans hg
  clear hc hf T
  go_wp2_with fail
  go_loopw [7, 24] (fun s7 i wr => s7 = .bool false ∧ i = .int .i64 0 ∧ Gr w1 wr) (fun _ _ _ => 0)
  case atStart => exact ⟨rfl, rfl, Gr.refl _⟩
  case round =>
    obtain ⟨rfl, rfl, hgr⟩ := hrel
    obtain ⟨z0, z1, z2, z3, zf⟩ := v0.keep hgr
    simp only [nul] at z0 z1 z2 z3
    have e0 : w.heap.size < _ := lt_of_cell z0
    go_wp2
    refine bodyPost_ret (by simp [results, Tryd.results23, go_sem, z0, z1, z2, z3, e0, pairR, nul]) rfl ⟨rfl, ?_⟩
    exact ((((hg1.trans hgr).setCell (by simp) _).setCell (by simp) _).setCell (by simp) _).setCell (by simp) _
def Yes0 (w : World) (e : Ending) (w' : World) : Prop := e = .returned (.bool true) ∧ Gr w w'
set_option maxHeartbeats 2000000 in
set_option maxRecDepth 100000 in
theorem sums_loop1 (oa ob : Option Addr) (xs ys : List Int) (ca cb : Nat) (w : World) (hx : Ints w oa xs) (hfit : ∀ x ∈ xs, Vl.fitsB x = true) (hn : xs.length ≤ 200) (hpos : 0 < xs.length) (hy : Ints w ob ys) (m : Int) (hm : w.cell? ⟨0, 0, none⟩ = some (.int .i64 m)) :
    Calls Tryd.prog 6 #[.slice oa xs.length ca, .slice ob ys.length cb] w (Yes0 w) := by
  have hlen : decide ((200 : Int) < xs.length) = false := by simp; omega
  obtain ⟨i0, hi, hz0, hz1, hz2⟩ := info_parts v_info
  have L := fun n W => lint_any n W
  go_enter Tryd.func6, Tryd.ntmps6
  go_wp2_with fail
  go_loopw [5, 6, 7, 8] (fun s5 s6 s7 i wr => ∃ k : Nat, i = .int .i64 k ∧ k ≤ xs.length ∧ Hid (wr.ownsRow w.heap.size 23 4 s5 k (vCells (xs.take k))) ∧ Gr w wr ∧ s6 = .int .i64 (Vl.sumF Vl.hiF (xs.take k)) ∧ s7 = .int .i64 (Vl.sumF Vl.loF (xs.take k))) (fun _ _ _ i _ => xs.length - (intOf i).toNat)
  case atStart => exact ⟨0, rfl, Nat.zero_le _, hid (World.ownsRow_nil _ _ _ _), Gr.refl _, rfl, rfl⟩
  case round =>
    obtain ⟨k, rfl, hk, hown, hg0, rfl, rfl⟩ := hrel
    by_cases hlt : k < xs.length
    · obtain ⟨ad, had, hb, hc0⟩ := hx k hlt
      have hfk := (Vl.fits_iff _).1 (hfit _ (List.getElem_mem hlt))
      have Hs := hid (And.intro (Vl.sumF_take Vl.hiF xs k hlt) (Vl.sumF_take Vl.loF xs k hlt))
      have hB1 := Vl.hi_bd (xs.take k) fun x hx' => hfit x (List.mem_of_mem_take hx')
      have hB2 := Vl.lo_bd (xs.take k)
      have Ht := hid (List.take_succ_eq_append_getElem hlt)
      obtain ⟨x, hxv⟩ : ∃ x, x = xs[k] := ⟨_, rfl⟩
      have hl : (xs.take k).length = k := by simp; omega
      rw [← hxv] at hc0 Hs Ht hfk
      rw [hl] at hB1 hB2
      clear hxv hl
      subst had
      obtain ⟨hB11, hB12⟩ := hB1
      obtain ⟨hB21, hB22⟩ := hB2
      generalize Vl.sumF Vl.hiF (xs.take k) = A at *
      generalize Vl.sumF Vl.loF (xs.take k) = B at *
      have c0 : ∀ wr', Gr w wr' → wr'.cell? (ad.add k) = some (.int .i64 x) := fun wr' h => by rw [Below.cell h (by rw [add_block]; exact hb)]; exact hc0
      have c1 := c0 _ hg0
      have hz := hg0.size
      have hand := Vl.and_low x
      clear hc0 hx hb hfit
      go_wp2_with fail
      refine (L _ _).mono ?_
      rintro e w1 ⟨rfl, hg⟩
      have hown1 := hid (own_keep hown.out hg)
      have c2 := c0 _ (hg0.trans hg)
      have hzz := hg.size
      clear c1
      go_wp2_with (at_builtin; refine wpList_append_own _ rfl _ _ 35 rfl w.heap.size 23 i0 (.agg #[.int .i64 0, .int .i64 0, .string ⟨#[]⟩, .bool false]) 4 40 Tryd.underlying35 hi hz0 hz1 hz2 rfl (by decide) _ _ _ rfl (hown1.out.alloc _) ⟨w1.heap.size, 0, none⟩ 1 1 [.int .i64 1, .int .i64 x, .string ⟨#[]⟩, .bool false] rfl rfl ?c1 ?c2 ?c3 ?c4 ?c5 ?_)
      case c1 => exact cell_one w1 _ 23 _ rfl
      case c2 => intro u hu; simp at hu; rcases hu with rfl | rfl | rfl | rfl <;> rfl
      case c3 => unfold maxLen; omega
      case c4 => omega
      case c5 => simp; omega
      intro v' w2 hown2 hg2 _
      have hg3 : Gr w w2 := ((hg0.trans hg).alloc _).grown hg2 (fun b hb => (hown1.out.lt b hb).1)
      have c3 := c0 _ hg3
      have Hown2 := hid hown2
      clear hown2 hg2 hown1 hown c2
      go_wp2
      refine ⟨⟨k + 1, by go_num, by omega, hid (by rw [Ht.out, vCells_snoc]; exact Hown2.out), hg3, by rw [Hs.out.1]; rfl, by rw [Hs.out.2]; rfl⟩, by simp [intOf]; omega⟩
    · obtain rfl : k = xs.length := by omega
      rw [List.take_length] at hown ⊢
      obtain ⟨ga, cpa, rfl, ha1, ha2⟩ := own_form hown.out hpos
      have hB1 := Vl.hi_bd xs hfit
      have hB2 := Vl.lo_bd xs
      obtain ⟨hB11, hB12⟩ := hB1
      obtain ⟨hB21, hB22⟩ := hB2
      have hP := hid (Vl.parts xs)
      generalize Vl.sumF Vl.hiF xs = A at *
      generalize Vl.sumF Vl.loF xs = B at *
      rename_i wr _
      have hz := hg0.size
      have Hx := hid hx
      obtain ⟨wr0, hwr0⟩ : ∃ n, n = wr.heap.size := ⟨_, rfl⟩
      clear hx hk hlt
      go_wp2_with (at_builtin; refine wpList_append_own _ rfl _ _ 35 rfl wr.heap.size 23 i0 (.agg #[.int .i64 0, .int .i64 0, .string ⟨#[]⟩, .bool false]) 4 40 Tryd.underlying35 hi hz0 hz1 hz2 rfl (by decide) _ _ _ rfl (World.ownsRow_lit wr #[] 0 (Nat.le_refl _) (by decide) rfl) ⟨ga, 0, none⟩ xs.length cpa (vCells xs) rfl (vCells_len xs) ?c1 ?c2 ?c3 ?c4 ?c5 ?_)
      case c1 => exact (hown.out.alloc _).cells rfl
      case c2 => exact vCells_one xs
      case c3 => unfold maxLen; omega
      case c4 => omega
      case c5 => simp
      intro v' w2 hown2 hg2 _
      have hown2 : w2.ownsRow wr.heap.size 23 4 v' xs.length (vCells xs) := hown2
      rw [← hwr0] at hown2
      have hwr1 : wr0 = wr.heap.size := hwr0
      clear hwr0
      obtain ⟨gb, cpb, rfl, hb1, hb2⟩ := own_form hown2 hpos
      have hg3 : Gr w w2 := (hg0.alloc _).grown hg2 (fun b hb => by simp [Value.ownBlock] at hb; omega)
      have hown1 : w2.ownsRow w.heap.size 23 4 (.slice (some ⟨ga, 0, none⟩) xs.length cpa) xs.length (vCells xs) :=
        (hown.out.alloc _).kept hg2 (.inr (by simp [Value.ownBlock]; omega))
      have hwr2 : wr.heap.size ≤ wr0 := by omega
      clear hwr1
      have Hown1 := hid hown1
      have Hown2 := hid hown2
      have Hfit := hid hfit
      have hgab : ¬ ga = gb := by omega
      have hgba : ¬ gb = ga := by omega
      clear hown hown2 hown1 hg2 hfit
      go_wp2_with fail
      go_loopw [10] (fun i wq => ∃ (k : Nat) (zs : List Int), i = .int .i64 k ∧ k ≤ xs.length ∧ Hid (zs.length = xs.length ∧ Vl.sumF (fun x => x) zs = Vl.sumF (fun x => x) xs ∧ ∀ z ∈ zs, Vl.fitsB z = true) ∧ Hid (wq.ownsRow wr0 23 4 (.slice (some ⟨gb, 0, none⟩) xs.length cpb) xs.length (vCells zs)) ∧ Hid (wq.ownsRow w.heap.size 23 4 (.slice (some ⟨ga, 0, none⟩) xs.length cpa) xs.length (vCells xs)) ∧ Gr w wq) (fun i _ => xs.length - (intOf i).toNat)
      case atStart => exact ⟨0, xs, rfl, Nat.zero_le _, hid ⟨rfl, rfl, Hfit.out⟩, Hown2, Hown1, hg3⟩
      case round =>
        obtain ⟨k, zs, rfl, hk, hzs, hob, hoa, hgq⟩ := hrel
        by_cases hlt : k < xs.length
        · by_cases hly : k < ys.length
          · obtain ⟨bd, had, hbb, hc0⟩ := hy k hly
            obtain ⟨y, hyv⟩ : ∃ y, y = ys[k] := ⟨_, rfl⟩
            rw [← hyv] at hc0
            clear hyv
            subst had
            have c0 : ∀ wr', Gr w wr' → wr'.cell? (bd.add k) = some (.int .i64 y) := fun wr' h => by rw [Below.cell h (by rw [add_block]; exact hbb)]; exact hc0
            have c1 := c0 _ hgq
            clear hc0 c0
            have hnz : ¬ ((xs.length : Int) = 0) := by omega
            obtain ⟨Kj, hKj, hKK⟩ : ∃ Kj : Nat, Kj < xs.length ∧ (wrap64 (y.tmod (xs.length : Int) + (xs.length : Int))).tmod (xs.length : Int) = (Kj : Int) := mod_in y xs.length hpos hn
            obtain ⟨u, v, ⟨p0, p1, p2, p3⟩, ⟨q0, q1, q2, q3⟩, Hzs⟩ := swap_pack hzs.out hob.out k Kj hlt hKj
            have hfz := hob.out.frozenAt
            have hgb : w.heap.size ≤ gb := by omega
            by_cases hkK : k = Kj
            · subst hkK
              obtain rfl : u = v := by have h := p1.symm.trans q1; simpa using h
              clear q0 q1 q2 q3
              go_wp2_with fail
              go_region
              go_wp2
              refine ⟨⟨k + 1, (zs.set k u).set k u, by go_num, by omega, Hzs, hid (own_put (own_put hob.out k u) k u).drew, hid (own_other4 (own_other4 hoa.out hgab _ _ _ _ _ _ _ _) hgab _ _ _ _ _ _ _ _).drew, (Gr.set4' (Gr.set4' hgq hgb _ _ _ _ _ _ _ _) hgb _ _ _ _ _ _ _ _).drew⟩, by simp [intOf]; omega⟩
            · have hm1 : ¬ k * 4 = Kj * 4 := by omega
              go_wp2_with fail
              go_region
              go_wp2
              refine ⟨⟨k + 1, (zs.set k v).set Kj u, by go_num, by omega, Hzs, hid (own_put (own_put hob.out k v) Kj u).drew, hid (own_other4 (own_other4 hoa.out hgab _ _ _ _ _ _ _ _) hgab _ _ _ _ _ _ _ _).drew, (Gr.set4' (Gr.set4' hgq hgb _ _ _ _ _ _ _ _) hgb _ _ _ _ _ _ _ _).drew⟩, by simp [intOf]; omega⟩
          · clear hy
            go_wp2_with fail
            obtain ⟨hzl, hzS, hzf⟩ := hzs.out
            obtain ⟨S, hS⟩ : ∃ S, S = Vl.sumF (fun x => x) xs := ⟨_, rfl⟩
            have S1 := fun W h => sum_row xs w.heap.size ga cpa W h Hfit.out hn hpos
            have S2 := fun c' g' W h => sum_row_nul zs wr0 g' c' W h hzf (by omega) (by omega)
            have hP' := hP.out
            rw [hzl, hzS] at S2
            rw [← hS] at S1 S2 hP'
            have HS1 := hid S1
            have HS2 := hid S2
            have hcs := res_cases S A B hP'
            have hand := Vl.and_low B
            clear S1 S2 hzl hzS hzf hS hP' hP
            have hgb1 := hob.out.lt gb rfl
            have hga1 := hoa.out.lt ga rfl
            have hzq := hgq.size
            have hmw := hgq.keep hm
            rcases hcs with ⟨hc1, hc2, hR, hor⟩ | ⟨hc1, hR⟩ | ⟨hc1, hR⟩
            · rw [hR] at HS1 HS2
              clear hR
              have hwr : IntKind.i64.wrap ((A + B / 4294967296) * 4294967296) = (A + B / 4294967296) * 4294967296 := by rw [IntKind.wrap_i64]; omega
              have t1 : decide (-2147483648 ≤ A + B / 4294967296) = true := by simpa using hc1
              have t2 : decide (A + B / 4294967296 < 2147483648) = true := by simpa using hc2
              clear hc1 hc2
              refine (HS1.out _ hoa.out).mono ?_
              rintro e w1 ⟨rfl, hg⟩
              have hob1 := hid (own_keep hob.out hg)
              have hsz1 := hg.size
              have hgb2 := hob1.out.lt gb rfl
              simp only [pairR, numV, nul] at HS2 ⊢
              go_wp2_with (at_builtin; (refine wpList_append_own _ rfl _ _ 35 rfl wr0 23 i0 (.agg #[.int .i64 0, .int .i64 0, .string ⟨#[]⟩, .bool false]) 4 40 Tryd.underlying35 hi hz0 hz1 hz2 rfl (by decide) _ _ _ rfl ((hob1.out.alloc _).alloc _) ⟨w1.heap.size + 1, 0, none⟩ 1 1 [.int .i64 0, .int .i64 0, .string ⟨#[]⟩, .bool false] rfl rfl (cell_two w1 _ _ 23 _ rfl) nul_one (by unfold maxLen; omega) (by omega) (by first | omega | (simp; omega)) ?_))
              intro v' w2 hown3 hg2 _
              have hown3 : w2.ownsRow wr0 23 4 v' (xs.length + 1) (vCells zs ++ [.int .i64 0, .int .i64 0, .string ⟨#[]⟩, .bool false]) := hown3
              obtain ⟨gc, cpc, rfl, hc1, hc2⟩ := own_form hown3 (by omega)
              have hne : some w1.heap.size ≠ (Value.slice (some ⟨gb, 0, none⟩) xs.length cpb).ownBlock := by simp [Value.ownBlock]; omega
              have x0 : w2.cell? ⟨w1.heap.size, 0, none⟩ = some (.int .i64 1) := hg2.cell (by go_simp) hne
              have x1 : w2.cell? ⟨w1.heap.size, 1, none⟩ = some (.int .i64 S) := hg2.cell (by go_simp) hne
              have x2 : w2.cell? ⟨w1.heap.size, 2, none⟩ = some (.string ⟨#[]⟩) := hg2.cell (by go_simp) hne
              have x3 : w2.cell? ⟨w1.heap.size, 3, none⟩ = some (.bool false) := hg2.cell (by go_simp) hne
              have hg4 : Gr w w2 := (((hgq.trans hg).alloc _).alloc _).grown hg2 (fun b hb => by simp [Value.ownBlock] at hb; omega)
              have Hown3 := hid hown3
              clear hown3 hg2 hne hob1 hob hoa hg hg0 hg3 Hown1 Hown2 Hx
              have hsz2 := hg4.size
              go_wp2_with fail
              refine (HS2.out _ _ _ Hown3.out).mono ?_
              rintro e w3 ⟨rfl, hg⟩
              have y0 := hg.keep x0
              have y1 := hg.keep x1
              have y2 := hg.keep x2
              have y3 := hg.keep x3
              have e3 : w1.heap.size < w3.heap.size := lt_of_cell y0
              have hg5 := hg4.trans hg
              have ym := hg5.keep hm
              have e0 : 0 < w3.heap.size := lt_of_cell ym
              have vg := v_guard
              have vs := fun a b c d W => v_same a b c d W
              have hs5 := hg5.size
              clear x0 x1 x2 x3 hg hg4 Hown3 HS2
              go_wp2_with fail
              have LS := fun W => L S W
              refine Rg.region_text 14 (Below.drew (Below.refl _ _)) (by kernel_rfl) (by kernel_rfl) (fun _ _ d _ _ h => by cases d <;> exact h) ?_
              simp only [List.append_eq, List.cons_append, List.nil_append, List.take_succ_cons, List.take_zero, List.drop_succ_cons, List.drop_zero]
              repeat (first
                  | (refine Rg.wpDets_skip (by rfl) ?_; simp only [Act.put, List.setIfInBounds_toArray, List.set_cons_zero, List.set_cons_succ])
                  | (refine Rg.wpDets_step ?_ (by rfl) (fun w hS => ?_) ?_
                     rotate_left
                     · have hc := Gr.cells hS
                       have hf := Gr.frees hS
                       go_simp
                       first
                       | (refine ⟨?_, Below.refl _ _⟩; with_reducible rfl)
                       | ((with_reducible refine (LS _).mono ?_); rintro e w' ⟨rfl, hg⟩; refine ⟨?_, hg⟩; with_reducible rfl)
                       | ((with_reducible refine (awake_any m _ (by go_simp)).mono ?_); rintro e w' ⟨rfl, hg⟩; refine ⟨?_, hg⟩; with_reducible rfl)
                     simp only [Act.put, List.setIfInBounds_toArray, List.set_cons_zero, List.set_cons_succ]))
              refine Rg.wpDets_nil ?_
              refine Rg.wpFlts_nil ?_
              refine Rg.wpLays_nil ?_
              intro w' hK
              have hg : Gr _ w' := hK.up
              have hc := hg.cells
              have hf := hg.frees
              have hz := hg.size
              try simp only [World.size_alloc, World.size_setCell, World.size_drew] at hz
              try have : 0 < w'.heap.size := by omega
              try have : w.heap.size < w'.heap.size := by omega
              try have : w.heap.size + 1 < w'.heap.size := by omega
              go_wp2
              go_ret
              exact ⟨rfl, (hg5.alloc _).trans hg⟩
            · rw [hR] at HS1 HS2
              clear hR
              have t1 : decide (-2147483648 ≤ A + B / 4294967296) = false := by simp; omega
              clear hc1
              refine (HS1.out _ hoa.out).mono ?_
              rintro e w1 ⟨rfl, hg⟩
              have hob1 := hid (own_keep hob.out hg)
              have hsz1 := hg.size
              have hgb2 := hob1.out.lt gb rfl
              simp only [pairR, numV, nul] at HS2 ⊢
              go_wp2_with (at_builtin; (refine wpList_append_own _ rfl _ _ 35 rfl wr0 23 i0 (.agg #[.int .i64 0, .int .i64 0, .string ⟨#[]⟩, .bool false]) 4 40 Tryd.underlying35 hi hz0 hz1 hz2 rfl (by decide) _ _ _ rfl ((hob1.out.alloc _).alloc _) ⟨w1.heap.size + 1, 0, none⟩ 1 1 [.int .i64 0, .int .i64 0, .string ⟨#[]⟩, .bool false] rfl rfl (cell_two w1 _ _ 23 _ rfl) nul_one (by unfold maxLen; omega) (by omega) (by first | omega | (simp; omega)) ?_))
              intro v' w2 hown3 hg2 _
              have hown3 : w2.ownsRow wr0 23 4 v' (xs.length + 1) (vCells zs ++ [.int .i64 0, .int .i64 0, .string ⟨#[]⟩, .bool false]) := hown3
              obtain ⟨gc, cpc, rfl, hc1, hc2⟩ := own_form hown3 (by omega)
              have hne : some w1.heap.size ≠ (Value.slice (some ⟨gb, 0, none⟩) xs.length cpb).ownBlock := by simp [Value.ownBlock]; omega
              have x0 : w2.cell? ⟨w1.heap.size, 0, none⟩ = some (.int .i64 0) := hg2.cell (by go_simp) hne
              have x1 : w2.cell? ⟨w1.heap.size, 1, none⟩ = some (.int .i64 0) := hg2.cell (by go_simp) hne
              have x2 : w2.cell? ⟨w1.heap.size, 2, none⟩ = some (.string ⟨#[]⟩) := hg2.cell (by go_simp) hne
              have x3 : w2.cell? ⟨w1.heap.size, 3, none⟩ = some (.bool false) := hg2.cell (by go_simp) hne
              have hg4 : Gr w w2 := (((hgq.trans hg).alloc _).alloc _).grown hg2 (fun b hb => by simp [Value.ownBlock] at hb; omega)
              have Hown3 := hid hown3
              clear hown3 hg2 hne hob1 hob hoa hg hg0 hg3 Hown1 Hown2 Hx
              have hsz2 := hg4.size
              go_wp2_with fail
              refine (HS2.out _ _ _ Hown3.out).mono ?_
              rintro e w3 ⟨rfl, hg⟩
              have y0 := hg.keep x0
              have y1 := hg.keep x1
              have y2 := hg.keep x2
              have y3 := hg.keep x3
              have e3 : w1.heap.size < w3.heap.size := lt_of_cell y0
              have hg5 := hg4.trans hg
              have ym := hg5.keep hm
              have e0 : 0 < w3.heap.size := lt_of_cell ym
              have vg := v_guard
              have vs := fun a b c d W => v_same a b c d W
              have hs5 := hg5.size
              clear x0 x1 x2 x3 hg hg4 Hown3 HS2
              go_wp2_with fail
              refine (awake_any m _ (by go_simp)).mono ?_
              rintro e w4 ⟨rfl, hg⟩
              go_wp2
              go_ret
              exact ⟨rfl, (hg5.alloc _).trans hg⟩
            · rw [hR] at HS1 HS2
              clear hR
              have t1 : decide (-2147483648 ≤ A + B / 4294967296) = true := by simp; omega
              have t2 : decide (A + B / 4294967296 < 2147483648) = false := by simp; omega
              clear hc1
              refine (HS1.out _ hoa.out).mono ?_
              rintro e w1 ⟨rfl, hg⟩
              have hob1 := hid (own_keep hob.out hg)
              have hsz1 := hg.size
              have hgb2 := hob1.out.lt gb rfl
              simp only [pairR, numV, nul] at HS2 ⊢
              go_wp2_with (at_builtin; (refine wpList_append_own _ rfl _ _ 35 rfl wr0 23 i0 (.agg #[.int .i64 0, .int .i64 0, .string ⟨#[]⟩, .bool false]) 4 40 Tryd.underlying35 hi hz0 hz1 hz2 rfl (by decide) _ _ _ rfl ((hob1.out.alloc _).alloc _) ⟨w1.heap.size + 1, 0, none⟩ 1 1 [.int .i64 0, .int .i64 0, .string ⟨#[]⟩, .bool false] rfl rfl (cell_two w1 _ _ 23 _ rfl) nul_one (by unfold maxLen; omega) (by omega) (by first | omega | (simp; omega)) ?_))
              intro v' w2 hown3 hg2 _
              have hown3 : w2.ownsRow wr0 23 4 v' (xs.length + 1) (vCells zs ++ [.int .i64 0, .int .i64 0, .string ⟨#[]⟩, .bool false]) := hown3
              obtain ⟨gc, cpc, rfl, hc1, hc2⟩ := own_form hown3 (by omega)
              have hne : some w1.heap.size ≠ (Value.slice (some ⟨gb, 0, none⟩) xs.length cpb).ownBlock := by simp [Value.ownBlock]; omega
              have x0 : w2.cell? ⟨w1.heap.size, 0, none⟩ = some (.int .i64 0) := hg2.cell (by go_simp) hne
              have x1 : w2.cell? ⟨w1.heap.size, 1, none⟩ = some (.int .i64 0) := hg2.cell (by go_simp) hne
              have x2 : w2.cell? ⟨w1.heap.size, 2, none⟩ = some (.string ⟨#[]⟩) := hg2.cell (by go_simp) hne
              have x3 : w2.cell? ⟨w1.heap.size, 3, none⟩ = some (.bool false) := hg2.cell (by go_simp) hne
              have hg4 : Gr w w2 := (((hgq.trans hg).alloc _).alloc _).grown hg2 (fun b hb => by simp [Value.ownBlock] at hb; omega)
              have Hown3 := hid hown3
              clear hown3 hg2 hne hob1 hob hoa hg hg0 hg3 Hown1 Hown2 Hx
              have hsz2 := hg4.size
              go_wp2_with fail
              refine (HS2.out _ _ _ Hown3.out).mono ?_
              rintro e w3 ⟨rfl, hg⟩
              have y0 := hg.keep x0
              have y1 := hg.keep x1
              have y2 := hg.keep x2
              have y3 := hg.keep x3
              have e3 : w1.heap.size < w3.heap.size := lt_of_cell y0
              have hg5 := hg4.trans hg
              have ym := hg5.keep hm
              have e0 : 0 < w3.heap.size := lt_of_cell ym
              have vg := v_guard
              have vs := fun a b c d W => v_same a b c d W
              have hs5 := hg5.size
              clear x0 x1 x2 x3 hg hg4 Hown3 HS2
              go_wp2_with fail
              refine (awake_any m _ (by go_simp)).mono ?_
              rintro e w4 ⟨rfl, hg⟩
              go_wp2
              go_ret
              exact ⟨rfl, (hg5.alloc _).trans hg⟩
        · clear hy
          go_wp2_with fail
          obtain ⟨hzl, hzS, hzf⟩ := hzs.out
          obtain ⟨S, hS⟩ : ∃ S, S = Vl.sumF (fun x => x) xs := ⟨_, rfl⟩
          have S1 := fun W h => sum_row xs w.heap.size ga cpa W h Hfit.out hn hpos
          have S2 := fun c' g' W h => sum_row_nul zs wr0 g' c' W h hzf (by omega) (by omega)
          have hP' := hP.out
          rw [hzl, hzS] at S2
          rw [← hS] at S1 S2 hP'
          have HS1 := hid S1
          have HS2 := hid S2
          have hcs := res_cases S A B hP'
          have hand := Vl.and_low B
          clear S1 S2 hzl hzS hzf hS hP' hP
          have hgb1 := hob.out.lt gb rfl
          have hga1 := hoa.out.lt ga rfl
          have hzq := hgq.size
          have hmw := hgq.keep hm
          rcases hcs with ⟨hc1, hc2, hR, hor⟩ | ⟨hc1, hR⟩ | ⟨hc1, hR⟩
          · rw [hR] at HS1 HS2
            clear hR
            have hwr : IntKind.i64.wrap ((A + B / 4294967296) * 4294967296) = (A + B / 4294967296) * 4294967296 := by rw [IntKind.wrap_i64]; omega
            have t1 : decide (-2147483648 ≤ A + B / 4294967296) = true := by simpa using hc1
            have t2 : decide (A + B / 4294967296 < 2147483648) = true := by simpa using hc2
            clear hc1 hc2
            refine (HS1.out _ hoa.out).mono ?_
            rintro e w1 ⟨rfl, hg⟩
            have hob1 := hid (own_keep hob.out hg)
            have hsz1 := hg.size
            have hgb2 := hob1.out.lt gb rfl
            simp only [pairR, numV, nul] at HS2 ⊢
            go_wp2_with (at_builtin; (refine wpList_append_own _ rfl _ _ 35 rfl wr0 23 i0 (.agg #[.int .i64 0, .int .i64 0, .string ⟨#[]⟩, .bool false]) 4 40 Tryd.underlying35 hi hz0 hz1 hz2 rfl (by decide) _ _ _ rfl ((hob1.out.alloc _).alloc _) ⟨w1.heap.size + 1, 0, none⟩ 1 1 [.int .i64 0, .int .i64 0, .string ⟨#[]⟩, .bool false] rfl rfl (cell_two w1 _ _ 23 _ rfl) nul_one (by unfold maxLen; omega) (by omega) (by first | omega | (simp; omega)) ?_))
            intro v' w2 hown3 hg2 _
            have hown3 : w2.ownsRow wr0 23 4 v' (xs.length + 1) (vCells zs ++ [.int .i64 0, .int .i64 0, .string ⟨#[]⟩, .bool false]) := hown3
            obtain ⟨gc, cpc, rfl, hc1, hc2⟩ := own_form hown3 (by omega)
            have hne : some w1.heap.size ≠ (Value.slice (some ⟨gb, 0, none⟩) xs.length cpb).ownBlock := by simp [Value.ownBlock]; omega
            have x0 : w2.cell? ⟨w1.heap.size, 0, none⟩ = some (.int .i64 1) := hg2.cell (by go_simp) hne
            have x1 : w2.cell? ⟨w1.heap.size, 1, none⟩ = some (.int .i64 S) := hg2.cell (by go_simp) hne
            have x2 : w2.cell? ⟨w1.heap.size, 2, none⟩ = some (.string ⟨#[]⟩) := hg2.cell (by go_simp) hne
            have x3 : w2.cell? ⟨w1.heap.size, 3, none⟩ = some (.bool false) := hg2.cell (by go_simp) hne
            have hg4 : Gr w w2 := (((hgq.trans hg).alloc _).alloc _).grown hg2 (fun b hb => by simp [Value.ownBlock] at hb; omega)
            have Hown3 := hid hown3
            clear hown3 hg2 hne hob1 hob hoa hg hg0 hg3 Hown1 Hown2 Hx
            have hsz2 := hg4.size
            go_wp2_with fail
            refine (HS2.out _ _ _ Hown3.out).mono ?_
            rintro e w3 ⟨rfl, hg⟩
            have y0 := hg.keep x0
            have y1 := hg.keep x1
            have y2 := hg.keep x2
            have y3 := hg.keep x3
            have e3 : w1.heap.size < w3.heap.size := lt_of_cell y0
            have hg5 := hg4.trans hg
            have ym := hg5.keep hm
            have e0 : 0 < w3.heap.size := lt_of_cell ym
            have vg := v_guard
            have vs := fun a b c d W => v_same a b c d W
            have hs5 := hg5.size
            clear x0 x1 x2 x3 hg hg4 Hown3 HS2
            go_wp2_with fail
            have LS := fun W => L S W
            refine Rg.region_text 14 (Below.drew (Below.refl _ _)) (by kernel_rfl) (by kernel_rfl) (fun _ _ d _ _ h => by cases d <;> exact h) ?_
            simp only [List.append_eq, List.cons_append, List.nil_append, List.take_succ_cons, List.take_zero, List.drop_succ_cons, List.drop_zero]
            repeat (first
                | (refine Rg.wpDets_skip (by rfl) ?_; simp only [Act.put, List.setIfInBounds_toArray, List.set_cons_zero, List.set_cons_succ])
                | (refine Rg.wpDets_step ?_ (by rfl) (fun w hS => ?_) ?_
                   rotate_left
                   · have hc := Gr.cells hS
                     have hf := Gr.frees hS
                     go_simp
                     first
                     | (refine ⟨?_, Below.refl _ _⟩; with_reducible rfl)
                     | ((with_reducible refine (LS _).mono ?_); rintro e w' ⟨rfl, hg⟩; refine ⟨?_, hg⟩; with_reducible rfl)
                     | ((with_reducible refine (awake_any m _ (by go_simp)).mono ?_); rintro e w' ⟨rfl, hg⟩; refine ⟨?_, hg⟩; with_reducible rfl)
                   simp only [Act.put, List.setIfInBounds_toArray, List.set_cons_zero, List.set_cons_succ]))
            refine Rg.wpDets_nil ?_
            refine Rg.wpFlts_nil ?_
            refine Rg.wpLays_nil ?_
            intro w' hK
            have hg : Gr _ w' := hK.up
            have hc := hg.cells
            have hf := hg.frees
            have hz := hg.size
            try simp only [World.size_alloc, World.size_setCell, World.size_drew] at hz
            try have : 0 < w'.heap.size := by omega
            try have : w.heap.size < w'.heap.size := by omega
            try have : w.heap.size + 1 < w'.heap.size := by omega
            go_wp2
            go_ret
            exact ⟨rfl, (hg5.alloc _).trans hg⟩
          · rw [hR] at HS1 HS2
            clear hR
            have t1 : decide (-2147483648 ≤ A + B / 4294967296) = false := by simp; omega
            clear hc1
            refine (HS1.out _ hoa.out).mono ?_
            rintro e w1 ⟨rfl, hg⟩
            have hob1 := hid (own_keep hob.out hg)
            have hsz1 := hg.size
            have hgb2 := hob1.out.lt gb rfl
            simp only [pairR, numV, nul] at HS2 ⊢
            go_wp2_with (at_builtin; (refine wpList_append_own _ rfl _ _ 35 rfl wr0 23 i0 (.agg #[.int .i64 0, .int .i64 0, .string ⟨#[]⟩, .bool false]) 4 40 Tryd.underlying35 hi hz0 hz1 hz2 rfl (by decide) _ _ _ rfl ((hob1.out.alloc _).alloc _) ⟨w1.heap.size + 1, 0, none⟩ 1 1 [.int .i64 0, .int .i64 0, .string ⟨#[]⟩, .bool false] rfl rfl (cell_two w1 _ _ 23 _ rfl) nul_one (by unfold maxLen; omega) (by omega) (by first | omega | (simp; omega)) ?_))
            intro v' w2 hown3 hg2 _
            have hown3 : w2.ownsRow wr0 23 4 v' (xs.length + 1) (vCells zs ++ [.int .i64 0, .int .i64 0, .string ⟨#[]⟩, .bool false]) := hown3
            obtain ⟨gc, cpc, rfl, hc1, hc2⟩ := own_form hown3 (by omega)
            have hne : some w1.heap.size ≠ (Value.slice (some ⟨gb, 0, none⟩) xs.length cpb).ownBlock := by simp [Value.ownBlock]; omega
            have x0 : w2.cell? ⟨w1.heap.size, 0, none⟩ = some (.int .i64 0) := hg2.cell (by go_simp) hne
            have x1 : w2.cell? ⟨w1.heap.size, 1, none⟩ = some (.int .i64 0) := hg2.cell (by go_simp) hne
            have x2 : w2.cell? ⟨w1.heap.size, 2, none⟩ = some (.string ⟨#[]⟩) := hg2.cell (by go_simp) hne
            have x3 : w2.cell? ⟨w1.heap.size, 3, none⟩ = some (.bool false) := hg2.cell (by go_simp) hne
            have hg4 : Gr w w2 := (((hgq.trans hg).alloc _).alloc _).grown hg2 (fun b hb => by simp [Value.ownBlock] at hb; omega)
            have Hown3 := hid hown3
            clear hown3 hg2 hne hob1 hob hoa hg hg0 hg3 Hown1 Hown2 Hx
            have hsz2 := hg4.size
            go_wp2_with fail
            refine (HS2.out _ _ _ Hown3.out).mono ?_
            rintro e w3 ⟨rfl, hg⟩
            have y0 := hg.keep x0
            have y1 := hg.keep x1
            have y2 := hg.keep x2
            have y3 := hg.keep x3
            have e3 : w1.heap.size < w3.heap.size := lt_of_cell y0
            have hg5 := hg4.trans hg
            have ym := hg5.keep hm
            have e0 : 0 < w3.heap.size := lt_of_cell ym
            have vg := v_guard
            have vs := fun a b c d W => v_same a b c d W
            have hs5 := hg5.size
            clear x0 x1 x2 x3 hg hg4 Hown3 HS2
            go_wp2_with fail
            refine (awake_any m _ (by go_simp)).mono ?_
            rintro e w4 ⟨rfl, hg⟩
            go_wp2
            go_ret
            exact ⟨rfl, (hg5.alloc _).trans hg⟩
          · rw [hR] at HS1 HS2
            clear hR
            have t1 : decide (-2147483648 ≤ A + B / 4294967296) = true := by simp; omega
            have t2 : decide (A + B / 4294967296 < 2147483648) = false := by simp; omega
            clear hc1
            refine (HS1.out _ hoa.out).mono ?_
            rintro e w1 ⟨rfl, hg⟩
            have hob1 := hid (own_keep hob.out hg)
            have hsz1 := hg.size
            have hgb2 := hob1.out.lt gb rfl
            simp only [pairR, numV, nul] at HS2 ⊢
            go_wp2_with (at_builtin; (refine wpList_append_own _ rfl _ _ 35 rfl wr0 23 i0 (.agg #[.int .i64 0, .int .i64 0, .string ⟨#[]⟩, .bool false]) 4 40 Tryd.underlying35 hi hz0 hz1 hz2 rfl (by decide) _ _ _ rfl ((hob1.out.alloc _).alloc _) ⟨w1.heap.size + 1, 0, none⟩ 1 1 [.int .i64 0, .int .i64 0, .string ⟨#[]⟩, .bool false] rfl rfl (cell_two w1 _ _ 23 _ rfl) nul_one (by unfold maxLen; omega) (by omega) (by first | omega | (simp; omega)) ?_))
            intro v' w2 hown3 hg2 _
            have hown3 : w2.ownsRow wr0 23 4 v' (xs.length + 1) (vCells zs ++ [.int .i64 0, .int .i64 0, .string ⟨#[]⟩, .bool false]) := hown3
            obtain ⟨gc, cpc, rfl, hc1, hc2⟩ := own_form hown3 (by omega)
            have hne : some w1.heap.size ≠ (Value.slice (some ⟨gb, 0, none⟩) xs.length cpb).ownBlock := by simp [Value.ownBlock]; omega
            have x0 : w2.cell? ⟨w1.heap.size, 0, none⟩ = some (.int .i64 0) := hg2.cell (by go_simp) hne
            have x1 : w2.cell? ⟨w1.heap.size, 1, none⟩ = some (.int .i64 0) := hg2.cell (by go_simp) hne
            have x2 : w2.cell? ⟨w1.heap.size, 2, none⟩ = some (.string ⟨#[]⟩) := hg2.cell (by go_simp) hne
            have x3 : w2.cell? ⟨w1.heap.size, 3, none⟩ = some (.bool false) := hg2.cell (by go_simp) hne
            have hg4 : Gr w w2 := (((hgq.trans hg).alloc _).alloc _).grown hg2 (fun b hb => by simp [Value.ownBlock] at hb; omega)
            have Hown3 := hid hown3
            clear hown3 hg2 hne hob1 hob hoa hg hg0 hg3 Hown1 Hown2 Hx
            have hsz2 := hg4.size
            go_wp2_with fail
            refine (HS2.out _ _ _ Hown3.out).mono ?_
            rintro e w3 ⟨rfl, hg⟩
            have y0 := hg.keep x0
            have y1 := hg.keep x1
            have y2 := hg.keep x2
            have y3 := hg.keep x3
            have e3 : w1.heap.size < w3.heap.size := lt_of_cell y0
            have hg5 := hg4.trans hg
            have ym := hg5.keep hm
            have e0 : 0 < w3.heap.size := lt_of_cell ym
            have vg := v_guard
            have vs := fun a b c d W => v_same a b c d W
            have hs5 := hg5.size
            clear x0 x1 x2 x3 hg hg4 Hown3 HS2
            go_wp2_with fail
            refine (awake_any m _ (by go_simp)).mono ?_
            rintro e w4 ⟨rfl, hg⟩
            go_wp2
            go_ret
            exact ⟨rfl, (hg5.alloc _).trans hg⟩
theorem sum_only_nul (base g cap : Nat) (w : World) (h : w.ownsRow base 23 4 (.slice (some ⟨g, 0, none⟩) 1 cap) 1 [.int .i64 0, .int .i64 0, .string ⟨#[]⟩, .bool false]) :
    Calls Tryd.prog 23 #[.slice (some ⟨g, 0, none⟩) 1 cap] w fun e w' => e = pairR (nul, 0) ∧ Gr w w' :=
  sum_any [nul] g cap w (by simp) (own_vrow (base := base) (cap := cap) (l := [nul]) h) (by
    intro v hv
    obtain rfl : v = nul := by simpa using hv
    exact ⟨.inl rfl, by decide⟩)
set_option maxHeartbeats 2000000 in
set_option maxRecDepth 100000 in
theorem sums_none (oa ob : Option Addr) (nb : Nat) (ca cb : Nat) (w : World) (m : Int) (hm : w.cell? ⟨0, 0, none⟩ = some (.int .i64 m)) :
    Calls Tryd.prog 6 #[.slice oa 0 ca, .slice ob nb cb] w (Yes0 w) := by
  obtain ⟨i0, hi, hz0, hz1, hz2⟩ := info_parts v_info
  go_enter Tryd.func6, Tryd.ntmps6
  go_wp2_with fail
  go_loopw [5, 6, 7, 8] (fun s5 s6 s7 i wr => s5 = .slice none 0 0 ∧ s6 = .int .i64 0 ∧ s7 = .int .i64 0 ∧ i = .int .i64 0 ∧ Gr w wr) (fun _ _ _ _ _ => 0)
  case atStart => exact ⟨rfl, rfl, rfl, rfl, Gr.refl _⟩
  case round =>
    obtain ⟨rfl, rfl, rfl, rfl, hg0⟩ := hrel
    rename_i wr _
    have hsz := hg0.size
    go_wp2_with (at_builtin; refine wpList_append_fits_any _ rfl _ _ 35 rfl wr.heap.size 23 i0 4 Tryd.underlying35 hi hz1 wr.heap.size 0 0 [] rfl (World.ownsRow_lit wr #[] 0 (Nat.le_refl _) (by decide) rfl) none 0 0 [] rfl rfl (fun _ => ⟨rfl, rfl⟩) (fun ad h => by cases h) (fun u hu => by cases hu) (by omega) ?_)
    intro w2 hown2 hg2
    have hown2 : w2.ownsRow wr.heap.size 23 4 (.slice (some ⟨wr.heap.size, 0, none⟩) 0 0) 0 [] := hown2
    have hg3 : Gr w w2 := (hg0.alloc _).grown hg2 (fun b hb => by simp at hb; omega)
    have hgb : w.heap.size ≤ wr.heap.size := hsz
    have Hown2 := hid hown2
    clear hown2 hg2 hg0 hsz
    generalize wr.heap.size = gb at *
    go_wp2_with fail
    go_loopw [10] (fun i wq => i = .int .i64 0 ∧ Hid (wq.ownsRow gb 23 4 (.slice (some ⟨gb, 0, none⟩) 0 0) 0 []) ∧ Gr w wq) (fun _ _ => 0)
    case atStart => exact ⟨rfl, Hown2, hg3⟩
    case round =>
      obtain ⟨rfl, hob, hgq⟩ := hrel
      rename_i wq _
      have hand : bits .and .i64 0 4294967295 = 0 := by decide
      have hgb1 := hob.out.lt gb rfl
      have N := fun W => sum_nil W
      simp only [pairR, nul] at N
      go_wp2_with fail
      refine (N _).mono ?_
      rintro e w1 ⟨rfl, hg⟩
      have hob1 := hid (own_keep hob.out hg)
      have hsz1 := hg.size
      have hgb2 := hob1.out.lt gb rfl
      go_wp2_with (at_builtin; (refine wpList_append_own _ rfl _ _ 35 rfl gb 23 i0 (.agg #[.int .i64 0, .int .i64 0, .string ⟨#[]⟩, .bool false]) 4 40 Tryd.underlying35 hi hz0 hz1 hz2 rfl (by decide) _ _ _ rfl ((hob1.out.alloc _).alloc _) ⟨w1.heap.size + 1, 0, none⟩ 1 1 [.int .i64 0, .int .i64 0, .string ⟨#[]⟩, .bool false] rfl rfl (cell_two w1 _ _ 23 _ rfl) nul_one (by unfold maxLen; omega) (by omega) (by first | omega | (simp; omega)) ?_))
      intro v' w2 hown3 hg2 _
      have hown3 : w2.ownsRow gb 23 4 v' 1 [.int .i64 0, .int .i64 0, .string ⟨#[]⟩, .bool false] := hown3
      obtain ⟨gc, cpc, rfl, hc1, hc2⟩ := own_form hown3 (by omega)
      have hne : some w1.heap.size ≠ (Value.slice (some ⟨gb, 0, none⟩) 0 0).ownBlock := by simp [Value.ownBlock]; omega
      have x0 : w2.cell? ⟨w1.heap.size, 0, none⟩ = some (.int .i64 0) := hg2.cell (by go_simp) hne
      have x1 : w2.cell? ⟨w1.heap.size, 1, none⟩ = some (.int .i64 0) := hg2.cell (by go_simp) hne
      have x2 : w2.cell? ⟨w1.heap.size, 2, none⟩ = some (.string ⟨#[]⟩) := hg2.cell (by go_simp) hne
      have x3 : w2.cell? ⟨w1.heap.size, 3, none⟩ = some (.bool false) := hg2.cell (by go_simp) hne
      have hg4 : Gr w w2 := (((hgq.trans hg).alloc _).alloc _).grown hg2 (fun b hb => by simp [Value.ownBlock] at hb; omega)
      have Hown3 := hid hown3
      clear hown3 hg2 hne hob1 hob hg hg3 Hown2
      have hsz2 := hg4.size
      have M := fun W h => sum_only_nul gb gc cpc W h
      simp only [pairR, nul] at M
      have HM := hid M
      clear M N
      go_wp2_with fail
      refine (HM.out _ Hown3.out).mono ?_
      rintro e w3 ⟨rfl, hg⟩
      have y0 := hg.keep x0
      have y1 := hg.keep x1
      have y2 := hg.keep x2
      have y3 := hg.keep x3
      have e3 : w1.heap.size < w3.heap.size := lt_of_cell y0
      have hg5 := hg4.trans hg
      have ym := hg5.keep hm
      have e0 : 0 < w3.heap.size := lt_of_cell ym
      have vg := v_guard
      have vs := fun a b c d W => v_same a b c d W
      have hs5 := hg5.size
      clear x0 x1 x2 x3 hg hg4 Hown3 HM
      go_wp2_with fail
      refine (awake_any m _ (by go_simp)).mono ?_
      rintro e w4 ⟨rfl, hg⟩
      go_wp2
      go_ret
      exact ⟨rfl, (hg5.alloc _).trans hg⟩
set_option maxHeartbeats 2000000 in
set_option maxRecDepth 100000 in
theorem sums_long (oa ob : Option Addr) (na : Nat) (ca cb nb : Nat) (m : Int) (w : World) (hm : w.cell? ⟨0, 0, none⟩ = some (.int .i64 m)) (hna : 200 < na) :
    Calls Tryd.prog 6 #[.slice oa na ca, .slice ob nb cb] w (Yes0 w) := by
  have hpos : 0 < w.heap.size := lt_of_cell hm
  have h1 : decide ((200 : Int) < na) = true := by simp; omega
  go_enter Tryd.func6, Tryd.ntmps6
  go_wp2_with fail
  refine (awake_any m _ hm).mono ?_
  rintro e w4 ⟨rfl, hg⟩
  go_wp2
  go_ret
  exact ⟨rfl, hg⟩
theorem sums_any (oa ob : Option Addr) (xs ys : List Int) (ca cb : Nat) (w : World) (m : Int) (hm : w.cell? ⟨0, 0, none⟩ = some (.int .i64 m)) (hx : Ints w oa xs) (hy : Ints w ob ys) (hfit : ∀ x ∈ xs, Vl.fitsB x = true) :
    Calls Tryd.prog 6 #[.slice oa xs.length ca, .slice ob ys.length cb] w (Yes0 w) := by
  by_cases h : 200 < xs.length
  · exact sums_long oa ob xs.length ca cb _ m w hm h
  · by_cases h0 : xs.length = 0
    · rw [h0]; exact sums_none oa ob _ ca cb w m hm
    · exact sums_loop1 oa ob xs ys ca cb w hx hfit (by omega) (by omega) hy m hm
end Go.Proofs.YtefdkpfndjlpgaaDoor
