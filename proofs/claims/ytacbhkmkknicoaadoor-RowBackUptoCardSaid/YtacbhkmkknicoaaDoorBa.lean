/- Rows of bytes, numbers, values in memory. -/
import Derived.Test.YtacbhkmkknicoaaDoorGn
import Derived.Test.YtacbhkmkknicoaaDoorRx
import Derived.Test.YtacbhkmkknicoaaDoorRa
import Derived.Test.YtacbhkmkknicoaaDoorGrow
namespace Go.Proofs.YtacbhkmkknicoaaDoor
open Go.RowKit
set_option linter.unusedVariables false
set_option linter.unusedSimpArgs false
def bF (x : Int) : List Value := [.int .u8 x]
theorem bE : Enc bF 1 := ⟨fun _ => rfl, fun x u hu => by simp [bF] at hu; subst hu; rfl, by omega⟩
abbrev BAt := AtF bF 1
/-- all but a row of one's own stand -/
def Gz (v : Value) (w w' : World) : Prop := w.grownBy w' v.ownBlock
theorem Gz.of {v : Value} {w w' : World} (h : Gr w w') : Gz v w w' := h.only _
theorem Gz.refl (v : Value) (w : World) : Gz v w w := .of (Gr.refl w)
theorem Gz.trans {v : Value} {a b c : World} (h : Gz v a b) (k : Gz v b c) : Gz v a c :=
  ⟨k.os.trans h.os, k.tape.trans h.tape, k.output.trans h.output, Nat.le_trans h.size k.size, fun i hi hne => (k.block i (Nat.lt_of_lt_of_le hi h.size) hne).trans (h.block i hi hne)⟩
theorem Gz.gr {v : Value} {a b c : World} (h : Gz v a b) (k : Gr b c) : Gz v a c := h.trans (.of k)
theorem own_apart {w : World} {b1 b2 n1 n2 m1 m2 e1 e2 : Nat} {v1 v2 : Value} {xs ys : List Value} (h1 : w.ownsRow b1 e1 n1 v1 m1 xs) (h2 : w.ownsRow b2 e2 n2 v2 m2 ys) (he : e1 ≠ e2) : v1.ownBlock = none ∨ v1.ownBlock ≠ v2.ownBlock := by
  rcases h1.2 with ⟨rfl, _⟩ | ⟨g, cap, cur, rfl, _, hg, _⟩
  · exact .inl rfl
  · refine .inr fun e => ?_
    rcases h2.2 with ⟨rfl, _⟩ | ⟨g', cap', cur', rfl, _, hg', _⟩
    · simp [Value.ownBlock] at e
    · simp [Value.ownBlock] at e
      subst e
      rw [hg] at hg'
      simp at hg'
      exact he hg'.2
theorem Gz.cell {v : Value} {w w' : World} {b k : Nat} {u : Value} (h : Gz v w w') (hc : w.cell? ⟨b, k, none⟩ = some u) (hb : ∀ g, v.ownBlock = some g → g ≠ b) : w'.cell? ⟨b, k, none⟩ = some u :=
  World.grownBy.cell h hc (fun e => hb b (by simpa using e.symm) rfl)
/-- a block of type e stands there -/
def Ty (e : TypeId) (w : World) (b : Nat) : Prop := ∃ cur fz, w.heap[b]? = some (.cells cur e fz)
theorem Ty.lt {e : TypeId} {w : World} {b : Nat} (h : Ty e w b) : b < w.heap.size := by
  obtain ⟨cur, fz, h⟩ := h
  exact (Array.getElem?_eq_some_iff.1 h).1
theorem Ty.gr {e : TypeId} {w w' : World} {b : Nat} (h : Ty e w b) (hg : Gr w w') : Ty e w' b := by
  have hl := h.lt
  obtain ⟨cur, fz, h⟩ := h
  exact ⟨cur, fz, by have := hg.block b hl; rw [this]; exact h⟩
theorem Ty.gz {e : TypeId} {w w' : World} {b : Nat} {v : Value} (h : Ty e w b) (hg : Gz v w w') (hb : v.ownBlock ≠ some b) : Ty e w' b := by
  have hl := h.lt
  obtain ⟨cur, fz, h⟩ := h
  exact ⟨cur, fz, by rw [hg.block b hl (fun x => hb x.symm)]; exact h⟩
theorem Ty.ne {e e' : TypeId} {w : World} {b base n m : Nat} {v : Value} {xs : List Value} (h : Ty e w b) (ho : w.ownsRow base e' n v m xs) (he : e ≠ e') : v.ownBlock ≠ some b := by
  obtain ⟨cur, fz, h⟩ := h
  rcases ho.2 with ⟨rfl, _⟩ | ⟨g, cap, cur', rfl, _, hg, _⟩
  · simp [Value.ownBlock]
  · intro hh
    simp [Value.ownBlock] at hh
    subst hh
    rw [h] at hg
    simp at hg
    exact he hg.2.1
theorem Ty.new (w : World) (cs : Array Value) (e : TypeId) : Ty e (w.alloc (.cells cs e)) w.heap.size := ⟨cs, (0, 0), heap_alloc_new w _⟩
theorem Gz.up {w a b : World} {v : Value} {e n m : Nat} {xs : List Value} (h : Gr w a) (k : Gz v a b) (ho : a.ownsRow w.heap.size e n v m xs) : Gr w b := h.grown k (fun g hg => (World.ownsRow.lt ho g hg).1)
theorem own_mono {w : World} {b1 b2 n m e : Nat} {v : Value} {xs : List Value} (h : w.ownsRow b1 e n v m xs) (hb : b2 ≤ b1) : w.ownsRow b2 e n v m xs := by
  refine ⟨h.1, ?_⟩
  rcases h.2 with h' | ⟨g, cap, cur, hv, hg, rest⟩
  · exact .inl h'
  · exact .inr ⟨g, cap, cur, hv, Nat.le_trans hb hg, rest⟩
theorem sf_det {P : Program} {ops : Array Oper} {W : World} {F : List Nat} {Ds : List (Nat × List Nat)} {Gs : List (Nat × (Value → World → Prop))} {fr : Nat → Bool} {v : Nat → Value} {c : Value} {i : Nat} {o : Oper} {a : Act}
    (hF : F.contains i = false) (hw : Region.wanted o (yielded ops a.tmps) = true) (h : ∀ w, Rg.Up W w → Rg.facts Gs v w (Rg.Dat Ds i) → Rg.Brings P w c ((execOp a.eval o).run P w)) : Rg.StepOf P ops W F Ds Gs fr v (some c) i o a := by
  unfold Rg.StepOf
  simp only [hF, Bool.false_eq_true, if_false]
  exact Or.inl ⟨hw, h⟩
theorem sf_free {P : Program} {ops : Array Oper} {W : World} {F : List Nat} {Ds : List (Nat × List Nat)} {Gs : List (Nat × (Value → World → Prop))} {fr : Nat → Bool} {v : Nat → Value} {i : Nat} {o : Oper} {a : Act}
    (hF : F.contains i = false) (hw : Region.wanted o (yielded ops a.tmps) = true) (h : ∀ w, Rg.Up W w → Rg.facts Gs v w (Rg.Dat Ds i) → Rg.BringsG P w (Rg.Gat Gs i) (fr i) ((execOp a.eval o).run P w)) : Rg.StepOf P ops W F Ds Gs fr v none i o a := ⟨hF, hw, h⟩
/-- a new row of m structs with these cells -/
def Sl (m : Nat) (xs : List Value) (u : Value) (w : World) : Prop := ∃ g, u = .slice (some ⟨g, 0, none⟩) m m ∧ g < w.heap.size ∧ ∀ j x, xs[j]? = some x → w.cell? ⟨g, j, none⟩ = some x
theorem Sl.keep {m : Nat} {xs : List Value} {u : Value} {w w' : World} (h : Sl m xs u w) (hg : Gr w w') : Sl m xs u w' := by
  obtain ⟨g, e, hl, hc⟩ := h
  exact ⟨g, e, Nat.lt_of_lt_of_le hl hg.size, fun j x hx => hg.keep (hc j x hx)⟩
theorem sl_keep (m k : Nat) (xs : List Value) : ∀ i u w w', Rg.Gat [(k, Sl m xs)] i u w → Rg.Up w w' → Rg.Gat [(k, Sl m xs)] i u w' := by
  intro i u w w' h hu
  unfold Rg.Gat at h ⊢
  split at h
  · rename_i hk; rw [if_pos hk]; exact Sl.keep h hu
  · rename_i hk; rw [if_neg hk]; trivial
theorem sl_new (w : World) (m : Nat) (cs : Array Value) (t : TypeId) (xs : List Value) (h : cs.toList = xs) : Sl m xs (.slice (some ⟨w.heap.size, 0, none⟩) m m) (w.alloc (.cells cs t)) ∧ Rg.Up w (w.alloc (.cells cs t)) := by
  refine ⟨⟨_, rfl, by simp, fun j x hx => ?_⟩, (Gr.refl _).alloc _⟩
  rw [Rg.blk_cells (heap_alloc_new _ _) j]
  subst h
  simpa using hx
/-- a new row of m of type e with these cells -/
def St (e : TypeId) (m : Nat) (xs : List Value) (u : Value) (w : World) : Prop := ∃ g, u = .slice (some ⟨g, 0, none⟩) m m ∧ Ty e w g ∧ ∀ j x, xs[j]? = some x → w.cell? ⟨g, j, none⟩ = some x
theorem St.keep {e : TypeId} {m : Nat} {xs : List Value} {u : Value} {w w' : World} (h : St e m xs u w) (hg : Gr w w') : St e m xs u w' := by
  obtain ⟨g, h1, hl, hc⟩ := h
  exact ⟨g, h1, hl.gr hg, fun j x hx => hg.keep (hc j x hx)⟩
theorem st_keep2 (e1 e2 : TypeId) (m1 k1 m2 k2 : Nat) (xs ys : List Value) : ∀ i u w w', Rg.Gat [(k1, St e1 m1 xs), (k2, St e2 m2 ys)] i u w → Rg.Up w w' → Rg.Gat [(k1, St e1 m1 xs), (k2, St e2 m2 ys)] i u w' := by
  intro i u w w' h hu
  unfold Rg.Gat at h ⊢
  split at h
  · rename_i hk; rw [if_pos hk]; exact St.keep h hu
  · rename_i hk; rw [if_neg hk]
    unfold Rg.Gat at h ⊢
    split at h
    · rename_i hk2; rw [if_pos hk2]; exact St.keep h hu
    · rename_i hk2; rw [if_neg hk2]; trivial
theorem st_new (w : World) (m : Nat) (cs : Array Value) (t : TypeId) (xs : List Value) (h : cs.toList = xs) : St t m xs (.slice (some ⟨w.heap.size, 0, none⟩) m m) (w.alloc (.cells cs t)) ∧ Rg.Up w (w.alloc (.cells cs t)) := by
  refine ⟨⟨_, rfl, Ty.new _ _ _, fun j x hx => ?_⟩, (Gr.refl _).alloc _⟩
  rw [Rg.blk_cells (heap_alloc_new _ _) j]
  subst h
  simpa using hx
theorem own_at0 {α : Type} {f : α → List Value} {n : Nat} {w : World} {base : Nat} {e : TypeId} {v : Value} {l : List α} (he : Enc f n) (h : w.ownsRow base e n v l.length (cellsF f l)) :
    ∃ oa c, v = .slice oa l.length c ∧ AtF f n w oa l ∧ (oa = none → c = 0) := by
  rcases h.2 with ⟨rfl, h0⟩ | ⟨g, cap, cur, rfl, hb, hg, hc, _⟩
  · exact ⟨none, 0, by rw [h0], .inl (List.eq_nil_of_length_eq_zero h0), fun _ => rfl⟩
  · obtain ⟨oa, c, e, hat, _⟩ := own_at he h
    cases e
    exact ⟨_, _, rfl, hat, fun h => by cases h⟩
theorem at_ne {α : Type} {f : α → List Value} {k : Nat} {w w' : World} {oa : Option Addr} {l : List α} {v : Value} (h : AtF f k w oa l) (hg : Gz v w w') (hne : ∀ g o q, oa = some ⟨g, o, q⟩ → v.ownBlock ≠ some g) : AtF f k w' oa l := by
  rcases h with h | ⟨b, off, e1, hb, hr⟩
  · exact .inl h
  · exact .inr ⟨b, off, e1, Nat.lt_of_lt_of_le hb hg.size, fun i hi j u hu => hg.cell (hr i hi j u hu) (fun g' hv e2 => hne b off none e1 (by rw [hv, e2]))⟩
theorem ty_ne {e : TypeId} {w w' : World} {oa : Option Addr} {v : Value} (h : ∀ g o q, oa = some ⟨g, o, q⟩ → Ty e w g) (hg : Gz v w w') (hne : ∀ g o q, oa = some ⟨g, o, q⟩ → v.ownBlock ≠ some g) : ∀ g o q, oa = some ⟨g, o, q⟩ → Ty e w' g :=
  fun g o q e1 => (h g o q e1).gz hg (hne g o q e1)
def iF (x : Int) : List Value := [.int .i64 x]
theorem iE : Enc iF 1 := ⟨fun _ => rfl, fun x u hu => by simp [iF] at hu; subst hu; rfl, by omega⟩
abbrev IAt := AtF iF 1
/-- a value's cells -/
def vF (v : V) : List Value := [.int .i64 v.t, .int .i64 v.n, .string v.s, .bool v.b]
theorem vE : Enc vF 4 := ⟨fun _ => rfl, fun x u hu => by simp [vF] at hu; rcases hu with rfl | rfl | rfl | rfl <;> rfl, by omega⟩
abbrev VAt := AtF vF 4
theorem v_get {w : World} {oa : Option Addr} {l : List V} (h : VAt w oa l) (k : Nat) (hk : k < l.length) : ∃ b off, oa = some ⟨b, off, none⟩ ∧
    w.cell? ⟨b, off + k * 4, none⟩ = some (.int .i64 l[k].t) ∧ w.cell? ⟨b, off + k * 4 + 1, none⟩ = some (.int .i64 l[k].n) ∧ w.cell? ⟨b, off + k * 4 + 2, none⟩ = some (.string l[k].s) ∧ w.cell? ⟨b, off + k * 4 + 3, none⟩ = some (.bool l[k].b) := by
  obtain ⟨b, off, e, _, hc⟩ := h.get k hk
  refine ⟨b, off, e, ?_, hc 1 _ rfl, hc 2 _ rfl, hc 3 _ rfl⟩
  have := hc 0 (.int .i64 l[k].t) rfl
  simpa using this
theorem b_get {w : World} {oa : Option Addr} {l : List Int} (h : BAt w oa l) (k : Nat) (hk : k < l.length) : ∃ b off, oa = some ⟨b, off, none⟩ ∧ w.cell? ⟨b, off + k, none⟩ = some (.int .u8 l[k]) := by
  obtain ⟨b, off, e, _, hc⟩ := h.get k hk
  refine ⟨b, off, e, ?_⟩
  have := hc 0 (.int .u8 l[k]) rfl
  simpa using this
theorem b_info : (Tryd.prog.info? 5).map (fun i => (i.zero, i.size, i.bytes)) = some (some (.int .u8 0), 1, 1) := by kernel_rfl
theorem i_info : (Tryd.prog.info? 3).map (fun i => (i.zero, i.size, i.bytes)) = some (some (.int .i64 0), 1, 8) := by kernel_rfl
theorem v_info : (Tryd.prog.info? 32).map (fun i => (i.zero, i.size, i.bytes)) = some (some (.agg #[.int .i64 0, .int .i64 0, .string ⟨#[]⟩, .bool false]), 4, 40) := by kernel_rfl
end Go.Proofs.YtacbhkmkknicoaaDoor
