/- A slice of ints that came in: what reading it gives, and back. -/
import Derived.Test.YtefdkpfndjlpgaaDoorSs
import Derived.Test.YtefdkpfndjlpgaaDoorPost
import Derived.Carry
import Derived.ChangeSlices
namespace Go.Proofs.YtefdkpfndjlpgaaDoor
open Go.ChangeShapes Go.WideShapes Go.RowKit
set_option linter.unusedVariables false
theorem laidOut : laidOutB Tryd.prog = true := by kernel_rfl
section
variable {H : Type} {enc : TypeId × Value → H} {W W' : World}
set_option maxRecDepth 100000 in
theorem open_intslice {r : Reach} {b0 : Nat} {v : Value} {d : DataW H} {p : List MemPlace} (hv : Value.okWide Tryd.prog W r b0 40 v) (h : DataW.Trod enc Tryd.prog W 0 (fun _ => true) true 40 v d p) :
    ∃ oa xs c, v = .slice oa xs.length c ∧ Ints W oa xs ∧ ∀ x ∈ xs, Vl.fitsB x = true := by
  obtain ⟨a0, len0, cap0, rfl⟩ := okWide_slice Tryd.underlying40 hv
  obtain ⟨fuel, hf⟩ := h
  rcases open_ints Tryd.underlying40 Tryd.underlying3 (by kernel_rfl) hf with ⟨hcs, _⟩ | ⟨x, l, c, zs, hcs, _, hl, hm, hz, _, hcell, hwz⟩
  · simp [Value.cells] at hcs
    obtain ⟨rfl, rfl, rfl⟩ := hcs
    exact ⟨none, [], 0, rfl, fun k hk => by simp at hk, fun x hx => by simp at hx⟩
  · simp [Value.cells] at hcs
    obtain ⟨rfl, rfl, rfl⟩ := hcs
    have hz' : zs.length = cap0 := by simpa using hz
    have hlen : (zs.take len0).length = len0 := by simp; omega
    refine ⟨some x, zs.take len0, cap0, by rw [hlen], fun k hk => ?_, fun y hy => ?_⟩
    · have hk' : k < zs.length := by rw [hlen] at hk; omega
      have hc := hcell k hk'
      have hb := World.block_lt_of_cell? _ _ hc
      rw [add_block] at hb
      refine ⟨x, rfl, hb, ?_⟩
      rw [hc, List.getElem_take]
      simp [List.getD, List.getElem?_eq_getElem hk']
    · have := bd_of_wf (hwz y (List.mem_of_mem_take hy))
      rw [Vl.fits_iff]
      exact this
set_option maxRecDepth 100000 in
theorem keep_arg {t : TypeId} (hr : Tryd.prog.readableRec t = true) (hrow : t < Tryd.prog.types.size) {v : Value} {d : DataW H} {ps : List MemPlace} (h : DataW.Trod enc Tryd.prog W 0 (fun _ => true) true t v d ps) (hb : Below W.heap.size W W') (hlt : ∀ x ∈ ps, x.block < W.heap.size) {sp : Nat → Bool} (hs : ∀ p ∈ ps, sp p.block = true) :
    DataW.Trod enc Tryd.prog W' 0 sp true t v d ps :=
  WideElems.Trod_stays laidOut hr hrow h (fun x hx => hb.same (hlt x hx)) hs
end
end Go.Proofs.YtefdkpfndjlpgaaDoor
