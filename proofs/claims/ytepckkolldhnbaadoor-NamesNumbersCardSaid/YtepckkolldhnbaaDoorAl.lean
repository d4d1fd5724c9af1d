/- NamesNumbers: the list of pairs, and the table. -/
import Derived.Test.YtepckkolldhnbaaDoorProg
import Derived.WalkKit
import Derived.WalkLawsBesides
import Derived.WalkSpells
import Derived.ProofKit
import Derived.Deep.DeepCutAuto
import Derived.Lib.LaidTab
import Derived.Below
namespace Go.Proofs.YtepckkolldhnbaaDoor
open Go.RowKit
set_option linter.unusedVariables false
/-- operations that only give values, one behind the other -/
def runOps (P : Program) : List Oper → Act → World → Option (Act × World)
  | [], a, w => some (a, w)
  | o :: rest, a, w => match o.guard, (execOp a.eval o).run P w with
    | none, .ok (.value v) w' => runOps P rest (a.put o.dst v) w'
    | _, _ => none
theorem wpList_run {P : Program} {ops : Array Oper} {Q : Exit → Act → World → Prop} : ∀ (l : List Oper) (a : Act) (w : World) (a' : Act) (w' : World), runOps P l a w = some (a', w') → Q .normal a' w' → wpList P ops Q l a w
  | [], a, w, a', w', h, hQ => by
    simp only [runOps, Option.some.injEq, Prod.mk.injEq] at h
    obtain ⟨rfl, rfl⟩ := h
    exact wpList_nil hQ
  | o :: rest, a, w, a', w', h, hQ => by
    unfold runOps at h
    split at h
    · rename_i v w1 hg hr
      refine wpList_plain hg fun K hK => ?_
      unfold Oper.wp
      rw [hr]
      exact hK _ _ (wpList_run rest _ _ _ _ h hQ)
    · cases h
theorem wpList_run_ex {P : Program} {ops : Array Oper} {Q : Exit → Act → World → Prop} {l : List Oper} {a : Act} {w : World} {v : Value} {w' : World}
    (h : (runOps P l a w).map (fun p => (p.1.tmps.getD 0 undef, p.1.defers, p.2)) = some (v, [], w')) (hQ : ∀ t : Array Value, t.getD 0 undef = v → Q .normal ⟨t, []⟩ w') : wpList P ops Q l a w := by
  obtain ⟨⟨⟨t, d⟩, w1⟩, h1, h2⟩ := Option.map_eq_some_iff.1 h
  simp only [Prod.mk.injEq] at h2
  obtain ⟨h3, rfl, rfl⟩ := h2
  exact wpList_run _ _ _ _ _ h1 (hQ t h3)
def nums : List Int := [0, 1, 2, 50, 60, 61, 62, 63, 160, 161, 162, 163, 164, 170, 171, 180, 181, 190, 191, 200, 201, 202, 128, 8192, 512, 504, 64, 2048, 480, 4096, 24, 8, 16, 4, 4, 65536, 64, 1, 2, 3, 4, 5, 6, 7, 1, 2, 3, 0, 1, 2, 3, 1, 2, 3, 4, 5, 1, 2, 3, 4, 5, 1, 2, 3, 4, 5, 6, 7, 8, 9, 10, 11, 12, 13, 14, 15, 16, 17, 18, 19, 20, 21, 22, 23, 24, 1, 2, 3, 4, 5, 6, 7, 8, 9, 10, 11, 12, 13, 14]
def cellsL : List Value := nums.flatMap fun n => [.int .i64 n, .int .i64 n]
set_option maxHeartbeats 4000000 in
set_option maxRecDepth 100000 in
theorem all_any (w : World) : Calls Tryd.prog 4 #[] w fun e w' => e = .returned (.slice (some ⟨w.heap.size, 0, none⟩) 99 99) ∧ w' = w.alloc (.cells cellsL.toArray 25) := by
  go_enter Tryd.func4, Tryd.ntmps4
  go_upto_region 1 with (fail)
  refine wp_region_list ?_
  refine wpList_run_ex (v := .slice (some ⟨w.heap.size, 0, none⟩) 99 99) (w' := w.alloc (.cells cellsL.toArray 25)) (by kernel_rfl) ?_
  intro t ht
  go_wp2
  refine bodyPost_ret (results_tmp rfl _ _ _) rfl ⟨?_, rfl⟩
  rw [ht]
/-- the document's numbers lie in a new row -/
theorem pairs_get : ∀ (l : List Int) (k : Nat) (h : k < l.length), (l.flatMap fun n => [Value.int .i64 n, .int .i64 n])[k * 2]? = some (.int .i64 l[k]) ∧ (l.flatMap fun n => [Value.int .i64 n, .int .i64 n])[k * 2 + 1]? = some (.int .i64 l[k])
  | [], _, h => by simp at h
  | x :: r, 0, _ => ⟨rfl, rfl⟩
  | x :: r, k + 1, h => by
    have := pairs_get r k (by simpa using h)
    rw [show (k + 1) * 2 = k * 2 + 1 + 1 by omega]
    simpa using this
theorem cells_new (w : World) (k : Nat) (h : k < 99) : ∃ n : Int, (w.alloc (.cells cellsL.toArray 25)).cell? ⟨w.heap.size, k * 2, none⟩ = some (.int .i64 n) ∧ (w.alloc (.cells cellsL.toArray 25)).cell? ⟨w.heap.size, k * 2 + 1, none⟩ = some (.int .i64 n) := by
  have hl : nums.length = 99 := by kernel_rfl
  have hp := pairs_get nums k (by omega)
  refine ⟨nums[k]'(by omega), ?_, ?_⟩
  · rw [cell_of_row _ _ _ _ _ _ (heap_alloc_new w _)]
    simpa [cellsL] using hp.1
  · rw [cell_of_row _ _ _ _ _ _ (heap_alloc_new w _)]
    simpa [cellsL] using hp.2
theorem laid_tail {P : Program} {x : String × DataW Unit} {r : List (String × DataW Unit)} {w : World} (h : laidMet P (x :: r) w) : laidMet P r w := by
  obtain ⟨ps, hv, hnd, hc⟩ := h
  obtain ⟨n, d⟩ := x
  obtain ⟨g, t, cs, fuel, p, q, _, _, _, _, hr, rfl⟩ := hv
  exact ⟨q, hr, (List.nodup_append.1 hnd).2.1, fun b off hm => hc b off (List.mem_append_right _ hm)⟩
theorem tab_keep {w w' : World} {zs : List Int} (h : Lib.TabIs Tryd.prog w "internal/strconv.uint64pow10" .u64 zs) (hb : Below w.heap.size w w') : Lib.TabIs Tryd.prog w' "internal/strconv.uint64pow10" .u64 zs := by
  obtain ⟨g, hg⟩ := Option.isSome_iff_exists.1 (show (Tryd.prog.globalNamed "internal/strconv.uint64pow10").isSome = true by kernel_rfl)
  unfold Lib.TabIs World.var? at h ⊢
  rw [hg] at h ⊢
  simp only [Option.bind_some] at h ⊢
  have hlt : g < w.heap.size := by
    rcases Nat.lt_or_ge g w.heap.size with h' | h'
    · exact h'
    · rw [Array.getElem?_eq_none h'] at h; cases h
  rw [hb.block _ hlt]
  exact h
end Go.Proofs.YtepckkolldhnbaaDoor
