/- plan: Clone, Clip, Scan. -/
import Derived.Test.YtemhfaknmagebaaH1
import Derived.OwnWalk
import Derived.Lib.LazyBuf
namespace Go.Proofs.Ytemhfaknmagebaa
open Go.RowKit
set_option linter.unusedSimpArgs false
set_option linter.unusedVariables false
/-- the cells of a slice of paths -/
def pCells (l : List (Int × Int)) : List Value := l.flatMap fun p => [.int .i64 p.1, .int .i64 p.2]
theorem pCells_cons (p : Int × Int) (l : List (Int × Int)) : pCells (p :: l) = .int .i64 p.1 :: .int .i64 p.2 :: pCells l := rfl
theorem pCells_snoc (l : List (Int × Int)) (p : Int × Int) : pCells (l ++ [p]) = pCells l ++ [.int .i64 p.1, .int .i64 p.2] := by simp [pCells]
theorem pCells_len : ∀ l : List (Int × Int), (pCells l).length = l.length * 2
  | [] => rfl
  | x :: r => by rw [pCells_cons]; simp only [List.length_cons]; rw [pCells_len r]; omega
theorem pCells_one (l : List (Int × Int)) : ∀ u ∈ pCells l, u.oneCell' = true := by
  intro u hu
  obtain ⟨n, _, hm⟩ := List.mem_flatMap.1 hu
  simp at hm
  rcases hm with rfl | rfl <;> rfl
theorem pCells_get : ∀ (l : List (Int × Int)) (k : Nat) (h : k < l.length), (pCells l)[k * 2]? = some (.int .i64 l[k].1) ∧ (pCells l)[k * 2 + 1]? = some (.int .i64 l[k].2)
  | [], k, h => by simp at h
  | x :: r, 0, _ => ⟨rfl, rfl⟩
  | x :: r, k + 1, h => by
    have := pCells_get r k (by simpa using h)
    rw [pCells_cons, show (k + 1) * 2 = k * 2 + 1 + 1 by omega]
    simpa using this
theorem pCells_at : ∀ (l : List (Int × Int)) (j : Nat) (u : Value), (pCells l)[j]? = some u → ∃ k, ∃ h : k < l.length, (j = k * 2 ∧ u = .int .i64 l[k].1) ∨ (j = k * 2 + 1 ∧ u = .int .i64 l[k].2) := by
  intro l j u h
  have hj : j < (pCells l).length := (List.getElem?_eq_some_iff.1 h).1
  rw [pCells_len] at hj
  have hk : j / 2 < l.length := by omega
  obtain ⟨g0, g1⟩ := pCells_get l (j / 2) hk
  refine ⟨j / 2, hk, ?_⟩
  rcases Nat.mod_two_eq_zero_or_one j with h0 | h0
  · have e : j / 2 * 2 = j := by omega
    rw [e, h] at g0
    exact Or.inl ⟨e.symm, by simpa using g0⟩
  · have e : j / 2 * 2 + 1 = j := by omega
    rw [e, h] at g1
    exact Or.inr ⟨e.symm, by simpa using g1⟩
theorem p_info : (Try.prog.info? 39).map (fun i => (i.zero, i.size, i.bytes)) = some (some (.agg #[.int .i64 0, .int .i64 0]), 2, 16) := by kernel_rfl
theorem Gr.grown {w wr w' : World} {row : Option Nat} (h : Gr w wr) (hg : wr.grownBy w' row) (hrow : ∀ k, row = some k → w.heap.size ≤ k) : Gr w w' :=
  Below.grown h hg h.size hrow
theorem Gr.only {a w : World} (h : Gr a w) (row : Option Nat) : a.grownBy w row := ⟨h.os, h.tape, h.output, h.size, fun i hi _ => h.block i hi⟩
theorem own_keep {w w' : World} {base n : Nat} {v : Value} {zs : List Value} (h : w.ownsRow base 39 2 v n zs) (hg : Gr w w') : w'.ownsRow base 39 2 v n zs :=
  h.kept (row := none) (hg.only _) (by cases v.ownBlock <;> simp)
/-- a row of one's own is a row of paths -/
theorem own_row {w : World} {base : Nat} {v : Value} {l : List (Int × Int)} (h : w.ownsRow base 39 2 v l.length (pCells l)) : ∃ oa c, v = .slice oa l.length c ∧ PAt w oa l ∧ ∀ g o q, oa = some ⟨g, o, q⟩ → base ≤ g := by
  rcases h.2 with ⟨rfl, h0⟩ | ⟨g, cap, cur, rfl, hb, hg, _⟩
  · exact ⟨none, 0, by rw [h0], Or.inl (List.eq_nil_of_length_eq_zero h0), by intro _ _ _ e; cases e⟩
  · refine ⟨_, _, rfl, Or.inr ⟨g, 0, rfl, (Array.getElem?_eq_some_iff.1 hg).1, fun k hk => ?_⟩, by intro _ _ _ e; cases e; exact hb⟩
    obtain ⟨c0, c1⟩ := pCells_get l k hk
    have hadd : ∀ j, (⟨g, 0, none⟩ : Addr).add j = ⟨g, j, none⟩ := fun j => by unfold Addr.add; split <;> simp_all
    have d0 := h.cells (g := g) rfl _ _ c0
    have d1 := h.cells (g := g) rfl _ _ c1
    rw [hadd] at d0 d1
    rw [Nat.zero_add]
    exact ⟨d0, d1⟩
theorem row_cells {w : World} {b off : Nat} {l : List (Int × Int)} (h : CRow w b off l) : ∀ j u, (pCells l)[j]? = some u → w.cell? ((⟨b, off, none⟩ : Addr).add j) = some u := by
  intro j u hu
  have hadd : (⟨b, off, none⟩ : Addr).add j = ⟨b, off + j, none⟩ := by unfold Addr.add; split <;> simp_all
  rw [hadd]
  obtain ⟨k, hk, ⟨rfl, rfl⟩ | ⟨rfl, rfl⟩⟩ := pCells_at l j u hu
  · exact (h.2 k hk).1
  · have := (h.2 k hk).2
    rwa [Nat.add_assoc] at this
theorem eql_nil (W : World) (oa : Option Addr) (n c : Nat) : (binOp .eql 27 (.slice oa n c) (.slice none 0 0)).run Try.prog W = .ok (.bool oa.isNone) W := run_eql_slice_nil W 27 39 oa n c Try.underlying27
/-- what Clone hands back -/
def OwnP (w : World) (l : List (Int × Int)) (e : Ending) (w' : World) : Prop := ∃ v, e = .returned v ∧ w'.ownsRow w.heap.size 39 2 v l.length (pCells l) ∧ Gr w w'
set_option maxHeartbeats 2000000 in
set_option maxRecDepth 100000 in
theorem clone_any (oa : Option Addr) (c : Nat) (l : List (Int × Int)) (w : World) (hl : l.length ≤ 1000000) (hp : PAt w oa l) :
    Calls Try.prog 26 #[.slice oa l.length c] w (OwnP w l) := by
  obtain ⟨i0, hi, hz0, hz1, hz2⟩ := info_parts p_info
  have N := fun (W : World) (oa : Option Addr) (n c : Nat) => eql_nil W oa n c
  cases oa with
  | none =>
    have h0 : l = [] := by
      rcases hp with h | ⟨b, off, h, _⟩
      · exact h
      · cases h
    subst h0
    simp only [List.length_nil]
    go_enter Try.func26, Try.ntmps26
    go_wp2
    go_ret
    exact ⟨_, rfl, World.ownsRow_nil _ _ _ _, Gr.refl _⟩
  | some ad =>
    have hc : ∀ W, Gr w W → ∀ j u, (pCells l)[j]? = some u → W.cell? (ad.add j) = some u := by
      intro W hW
      rcases hp.keep hW with h | ⟨b, off, h, hr⟩
      · subst h; intro j u hu; simp [pCells] at hu
      · cases h; exact row_cells hr
    have Hc := hid hc
    clear hc hp
    go_enter Try.func26, Try.ntmps26
    go_wp2_with (at_builtin; refine wpList_append_own _ rfl _ _ 27 rfl w.heap.size 39 i0 (.agg #[.int .i64 0, .int .i64 0]) 2 16 Try.underlying27 hi hz0 hz1 hz2 rfl (by decide) _ _ _ rfl (World.ownsRow_lit w #[] 0 (Nat.le_refl _) (by decide) rfl) ad l.length c (pCells l) rfl (pCells_len l) ?c1 ?c2 ?c3 ?c4 ?c5 ?_)
    case c1 => exact Hc.out _ ((Gr.refl w).alloc _)
    case c2 => exact pCells_one l
    case c3 => unfold maxLen; omega
    case c4 => omega
    case c5 => simp
    intro v' w2 hown2 hg2 _
    have hown2 : w2.ownsRow w.heap.size 39 2 v' l.length (pCells l) := by simpa using hown2
    have hg3 : Gr w w2 := ((Gr.refl w).alloc _).grown hg2 (fun b hb => by simp [Value.ownBlock] at hb; omega)
    have H := hid hown2
    clear hown2 hg2
    go_wp2
    go_ret
    exact ⟨_, rfl, H.out, hg3⟩
theorem clip_any (oa : Option Addr) (n c : Nat) (w : World) (hn : n ≤ c) : Calls Try.prog 16 #[.slice oa n c] w fun e w' => e = .returned (.slice oa n n) ∧ w' = w := by
  go_enter Try.func16, Try.ntmps16
  go_wp2
  go_ret
  exact ⟨rfl, rfl⟩
theorem scan_any (rows pages : Int) (s : Value) (w : World) : Calls Try.prog 7 #[.agg #[.int .i64 rows, .int .i64 pages, s]] w fun e w' => e = .returned (.complex .f64 (Fl.fw (bnd pages)) (Fl.fw (bnd rows))) ∧ Gr w w' := by
  have O := fun p r W => of_any p r W
  go_enter Try.func7, Try.ntmps7
  go_wp2_with fail
  refine (O _ _ _).mono ?_
  rintro e w' ⟨rfl, rfl⟩
  go_wp2
  go_ret
  exact ⟨rfl, (Gr.refl w).alloc _⟩
end Go.Proofs.Ytemhfaknmagebaa
