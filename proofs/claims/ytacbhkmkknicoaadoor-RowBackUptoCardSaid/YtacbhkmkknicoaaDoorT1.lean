/- row: a table that is read, field by field, in a block of its own; the reader lies before it, its rows behind it. -/
import Derived.Test.YtacbhkmkknicoaaDoorPr2
import Derived.Test.YtacbhkmkknicoaaDoorRc
namespace Go.Proofs.YtacbhkmkknicoaaDoor
open Go.RowKit
set_option linter.unusedSimpArgs false
set_option linter.unusedVariables false
theorem RS.low {T : TypeId} {p : Nat} {w w' : World} {l : List V} {bad : Bool} (h : RS T p w l bad) (hb : ∀ i, i ≤ p → w'.heap[i]? = w.heap[i]?) : RS T p w' l bad := by
  obtain ⟨oa, c, hh, hc, hat, hne⟩ := h.ex
  have hp : p < w.heap.size := (Array.getElem?_eq_some_iff.1 hh).1
  refine ⟨oa, c, by rw [hb p (Nat.le_refl _)]; exact hh, hc, ?_, hne⟩
  rcases hat with h0 | ⟨b, off, e, hbl, hr⟩
  · exact .inl h0
  · rcases hne with h0 | hne
    · exact .inl h0
    · have hbp := hne b off e
      have hk := hb b (Nat.le_of_lt hbp)
      refine .inr ⟨b, off, e, ?_, fun i hi j u hu => ?_⟩
      · rw [Array.getElem?_eq_getElem hbl] at hk
        exact (Array.getElem?_eq_some_iff.1 hk).1
      · rw [World.cell?_of_block (w := w) hk]
        exact hr i hi j u hu
theorem own_ne {w : World} {base e n m p : Nat} {v : Value} {xs : List Value} (h : w.ownsRow base e n v m xs) (hp : p < base) : v.ownBlock ≠ some p := fun e => by
  have := (World.ownsRow.lt h p e).1
  omega
theorem box_set (w : World) (q : Nat) (T : TypeId) (l : List Value) (k : Nat) (u : Value) (h : w.heap[q]? = some (.cells l.toArray T (0, 0))) : (w.setCell ⟨q, k, none⟩ u).heap[q]? = some (.cells (l.set k u).toArray T (0, 0)) := by
  simp [World.setCell, Array.getElem?_modify, h]
/-- what stands when so much is read -/
structure TX (p q base : Nat) (w0 : World) (T : TypeId) (nm : ByteArray) (v1 v2 : Value) (hd : Int) (v3 : Value) (cs : List Col) (xs : List Ix) (rs : List Int) (l : List V) (bad : Bool) (w : World) : Prop where
  r : RS T p w l bad
  h : w.heap[q]? = some (.cells #[.string nm, v1, v2, .int .i64 hd, v3] 29 (0, 0))
  c : w.ownsRow base 24 4 v1 cs.length (cellsF cF cs)
  x : w.ownsRow base 60 3 v2 xs.length (cellsF xF xs)
  i : w.ownsRow base 3 1 v3 rs.length (cellsF iF rs)
  g : Gr w0 w
  z0 : w0.heap.size ≤ p
  z1 : p < q
  z2 : q < base
  z3 : base ≤ w.heap.size
section
variable {p q base : Nat} {w0 w w' w3 : World} {T : TypeId} {nm : ByteArray} {v1 v2 v3 v' : Value} {hd : Int} {cs : List Col} {xs : List Ix} {rs : List Int} {l l' : List V} {bad bad' : Bool}
theorem TX.lt (h : TX p q base w0 T nm v1 v2 hd v3 cs xs rs l bad w) : q < w.heap.size := (Array.getElem?_eq_some_iff.1 h.h).1
theorem TX.gr (h : TX p q base w0 T nm v1 v2 hd v3 cs xs rs l bad w) (hg : Gr w w') : TX p q base w0 T nm v1 v2 hd v3 cs xs rs l bad w' :=
  ⟨h.r.keep hg, by rw [hg.block q h.lt]; exact h.h, own_keep h.c hg, own_keep h.x hg, own_keep h.i hg, h.g.trans hg, h.z0, h.z1, h.z2, Nat.le_trans h.z3 hg.size⟩
/-- the reader has gone on -/
theorem TX.go (h : TX p q base w0 T nm v1 v2 hd v3 cs xs rs l bad w) (hr : RS T p w' l' bad') (hg : Go1 p w w') : TX p q base w0 T nm v1 v2 hd v3 cs xs rs l' bad' w' :=
  have hz : p < base := Nat.lt_trans h.z1 h.z2
  ⟨hr, by rw [hg.block q h.lt (fun e => by have := h.z1; cases e; omega)]; exact h.h, h.c.kept hg (.inr (own_ne h.c hz)), h.x.kept hg (.inr (own_ne h.x hz)), h.i.kept hg (.inr (own_ne h.i hz)),
    h.g.grown hg (fun k e => by cases e; exact h.z0), h.z0, h.z1, h.z2, Nat.le_trans h.z3 hg.size⟩
/-- one of its rows has grown -/
theorem TX.grow (h : TX p q base w0 T nm v1 v2 hd v3 cs xs rs l bad w) {e n m : Nat} {v : Value} {zs : List Value} (hv : w.ownsRow base e n v m zs) (hq : Gz v w w3) :
    RS T p w3 l bad ∧ w3.heap[q]? = w.heap[q]? ∧ Gr w0 w3 := by
  have hz : p < base := Nat.lt_trans h.z1 h.z2
  have hs := h.lt
  have keep : ∀ i, i < base → i < w.heap.size → w3.heap[i]? = w.heap[i]? := fun i hi hs => hq.block i hs (fun e => own_ne hv hi e.symm)
  have z1 := h.z1
  refine ⟨h.r.low (fun i hi => keep i (by omega) (by omega)), keep q h.z2 hs, h.g.grown hq (fun k e => ?_)⟩
  have := (World.ownsRow.lt hv k e).1
  have := h.z0
  omega
/-- and is laid into it -/
theorem TX.put1 (h : TX p q base w0 T nm v1 v2 hd v3 cs xs rs l bad w) (hq : Gz v1 w w3) {cs' : List Col} (h3 : w3.ownsRow base 24 4 v' cs'.length (cellsF cF cs')) :
    w3.heap[q]? = w.heap[q]? ∧ TX p q base w0 T nm v' v2 hd v3 cs' xs rs l bad (w3.setCell ⟨q, 1, none⟩ v') := by
  obtain ⟨hr, hh, hg⟩ := h.grow h.c hq
  have G := Go1.set q 1 w3 v'
  have z1 := h.z1
  have z0 := h.z0
  refine ⟨hh, hr.low (fun i hi => Below.heap_setCell _ _ _ i (by simp; omega)), ?_, h3.kept G (.inr (own_ne h3 h.z2)), (h.x.kept hq (own_apart h.x h.c (by decide))).kept G (.inr (own_ne h.x h.z2)), (h.i.kept hq (own_apart h.i h.c (by decide))).kept G (.inr (own_ne h.i h.z2)), hg.setCell (by show w0.heap.size ≤ q; omega) _, h.z0, h.z1, h.z2, by simpa using Nat.le_trans h.z3 hq.size⟩
  exact box_set w3 q 29 [.string nm, v1, v2, .int .i64 hd, v3] 1 v' (by rw [hh]; exact h.h)
theorem TX.put2 (h : TX p q base w0 T nm v1 v2 hd v3 cs xs rs l bad w) (hq : Gz v2 w w3) {xs' : List Ix} (h3 : w3.ownsRow base 60 3 v' xs'.length (cellsF xF xs')) :
    w3.heap[q]? = w.heap[q]? ∧ TX p q base w0 T nm v1 v' hd v3 cs xs' rs l bad (w3.setCell ⟨q, 2, none⟩ v') := by
  obtain ⟨hr, hh, hg⟩ := h.grow h.x hq
  have G := Go1.set q 2 w3 v'
  have z1 := h.z1
  have z0 := h.z0
  refine ⟨hh, hr.low (fun i hi => Below.heap_setCell _ _ _ i (by simp; omega)), ?_, (h.c.kept hq (own_apart h.c h.x (by decide))).kept G (.inr (own_ne h.c h.z2)), h3.kept G (.inr (own_ne h3 h.z2)), (h.i.kept hq (own_apart h.i h.x (by decide))).kept G (.inr (own_ne h.i h.z2)), hg.setCell (by show w0.heap.size ≤ q; omega) _, h.z0, h.z1, h.z2, by simpa using Nat.le_trans h.z3 hq.size⟩
  exact box_set w3 q 29 [.string nm, v1, v2, .int .i64 hd, v3] 2 v' (by rw [hh]; exact h.h)
theorem TX.put3 (h : TX p q base w0 T nm v1 v2 hd v3 cs xs rs l bad w) (hq : Gz v3 w w3) {rs' : List Int} (h3 : w3.ownsRow base 3 1 v' rs'.length (cellsF iF rs')) :
    w3.heap[q]? = w.heap[q]? ∧ TX p q base w0 T nm v1 v2 hd v' cs xs rs' l bad (w3.setCell ⟨q, 4, none⟩ v') := by
  obtain ⟨hr, hh, hg⟩ := h.grow h.i hq
  have G := Go1.set q 4 w3 v'
  have z1 := h.z1
  have z0 := h.z0
  refine ⟨hh, hr.low (fun i hi => Below.heap_setCell _ _ _ i (by simp; omega)), ?_, (h.c.kept hq (own_apart h.c h.i (by decide))).kept G (.inr (own_ne h.c h.z2)), (h.x.kept hq (own_apart h.x h.i (by decide))).kept G (.inr (own_ne h.x h.z2)), h3.kept G (.inr (own_ne h3 h.z2)), hg.setCell (by show w0.heap.size ≤ q; omega) _, h.z0, h.z1, h.z2, by simpa using Nat.le_trans h.z3 hq.size⟩
  exact box_set w3 q 29 [.string nm, v1, v2, .int .i64 hd, v3] 4 v' (by rw [hh]; exact h.h)
theorem TX.puth (h : TX p q base w0 T nm v1 v2 hd v3 cs xs rs l bad w) (n : Int) : TX p q base w0 T nm v1 v2 n v3 cs xs rs l bad (w.setCell ⟨q, 3, none⟩ (.int .i64 n)) := by
  have G := Go1.set q 3 w (.int .i64 n)
  have z1 := h.z1
  have z0 := h.z0
  refine ⟨h.r.low (fun i hi => Below.heap_setCell _ _ _ i (by simp; omega)), ?_, h.c.kept G (.inr (own_ne h.c h.z2)), h.x.kept G (.inr (own_ne h.x h.z2)), h.i.kept G (.inr (own_ne h.i h.z2)), h.g.setCell (by show w0.heap.size ≤ q; omega) _, h.z0, h.z1, h.z2, by simpa using h.z3⟩
  exact box_set w q 29 [.string nm, v1, v2, .int .i64 hd, v3] 3 (.int .i64 n) h.h
theorem TX.putn (h : TX p q base w0 T nm v1 v2 hd v3 cs xs rs l bad w) (s : ByteArray) : TX p q base w0 T s v1 v2 hd v3 cs xs rs l bad (w.setCell ⟨q, 0, none⟩ (.string s)) := by
  have G := Go1.set q 0 w (.string s)
  have z1 := h.z1
  have z0 := h.z0
  refine ⟨h.r.low (fun i hi => Below.heap_setCell _ _ _ i (by simp; omega)), ?_, h.c.kept G (.inr (own_ne h.c h.z2)), h.x.kept G (.inr (own_ne h.x h.z2)), h.i.kept G (.inr (own_ne h.i h.z2)), h.g.setCell (by show w0.heap.size ≤ q; omega) _, h.z0, h.z1, h.z2, by simpa using h.z3⟩
  exact box_set w q 29 [.string nm, v1, v2, .int .i64 hd, v3] 0 (.string s) h.h
end
section
variable {P : Program} {ops : Array Oper} {Cs : List Nat} {Ws : List (Nat × Nat)} {St : Nat → (Nat → Value) → World → Prop} {v : Nat → Value} {i s : Nat} {o : Oper} {a : Act}
theorem sc_still {c : Value} (hC : Cs.contains i = false) (hw : Region.wanted o (yielded ops a.tmps) = true) (h : ∀ s w, Rg.limC Cs Ws i s → St s v w → Rg.Still w c ((execOp a.eval o).run P w)) : Rg.StepC P ops Cs Ws St v (some c) i s o a := by
  unfold Rg.StepC
  rw [hC]
  simp only [Bool.false_eq_true, if_false]
  exact .inl ⟨hw, h⟩
theorem sc_call {c : Value} (hC : Cs.contains i = true) (hw : Region.wanted o (yielded ops a.tmps) = true) (h : ∀ w, St s v w → Rg.BringsS P (fun u w' => u = c ∧ St (s + 1) v w') ((execOp a.eval o).run P w)) : Rg.StepC P ops Cs Ws St v (some c) i s o a := by
  unfold Rg.StepC
  rw [hC]
  simp only [if_true]
  exact ⟨hw, h⟩
theorem sc_new (hC : Cs.contains i = true) (hw : Region.wanted o (yielded ops a.tmps) = true) (h : ∀ w, St s v w → Rg.BringsS P (fun u w' => St (s + 1) (Rg.upd v i u) w') ((execOp a.eval o).run P w)) : Rg.StepC P ops Cs Ws St v none i s o a := by
  unfold Rg.StepC
  rw [hC]
  simp only [if_true]
  exact ⟨hw, h⟩
end
/-- a new row of one struct -/
def One (xs : List Value) (u : Value) (w : World) : Prop := ∃ g, u = .slice (some ⟨g, 0, none⟩) 1 1 ∧ ∀ j x, xs[j]? = some x → w.cell? ⟨g, j, none⟩ = some x
theorem one_new (w : World) (xs : List Value) (T : TypeId) : One xs (.slice (some ⟨w.heap.size, 0, none⟩) 1 1) (w.alloc (.cells xs.toArray T)) := by
  refine ⟨_, rfl, fun j x hx => ?_⟩
  rw [Rg.blk_cells (heap_alloc_new _ _) j]
  simpa using hx
/-- the stages of such a region: m readings, then the row of one -/
def StT (m idx : Nat) (xs : List Value) (F : Nat → World → Prop) (s : Nat) (v : Nat → Value) (w : World) : Prop := if s ≤ m then F s w else F m w ∧ One xs (v idx) w
theorem st_at {m idx : Nat} {xs : List Value} {F : Nat → World → Prop} {s : Nat} {v : Nat → Value} {w : World} (h : s ≤ m) : StT m idx xs F s v w = F s w := by unfold StT; rw [if_pos h]
theorem st_end {m idx : Nat} {xs : List Value} {F : Nat → World → Prop} {s : Nat} {v : Nat → Value} {w : World} (h : m < s) : StT m idx xs F s v w = (F m w ∧ One xs (v idx) w) := by unfold StT; rw [if_neg (by omega)]
theorem st_any {m idx : Nat} {xs : List Value} {F : Nat → World → Prop} {s : Nat} {v : Nat → Value} {w : World} (h : StT m idx xs F s v w) : ∃ k, F k w := by
  unfold StT at h
  split at h
  · exact ⟨_, h⟩
  · exact ⟨_, h.1⟩
theorem upd_same (v : Nat → Value) (i : Nat) (u : Value) : Rg.upd v i u i = u := by simp [Rg.upd]
theorem c_info : (Tryd.prog.info? 24).map (fun i => (i.zero, i.size, i.bytes)) = some (some (.agg #[.string ⟨#[]⟩, .int .i64 0, .bool false, .bool false]), 4, 32) := by kernel_rfl
theorem x_info : (Tryd.prog.info? 60).map (fun i => (i.zero, i.size, i.bytes)) = some (some (.agg #[.string ⟨#[]⟩, .int .i64 0, .bool false]), 3, 32) := by kernel_rfl
def TbP (w : World) (R : Option Tb) (e : Ending) (w' : World) : Prop := Gr w w' ∧ ∃ t, TbAt w' t ∧ mkT t.nm t.cs t.xs t.hd t.rs = R.getD noT ∧ e = .returned (.tuple #[t.val, .bool R.isSome])
theorem spp_st {w w' : World} {R : Option (List V)} {e : Ending} (h : SpP w R e w') : ∃ oa ok l, stOf R = (l, !ok) ∧ e = .returned (.tuple #[.slice oa l.length l.length, .bool ok]) ∧ VAt w' oa l ∧ Gr w w' := by
  obtain ⟨hg, h⟩ := h
  cases R with
  | none => exact ⟨none, false, [], rfl, h, .inl rfl, hg⟩
  | some vs =>
    obtain ⟨oa, h1, h2⟩ := h
    exact ⟨oa, true, vs, rfl, h1, h2, hg⟩
theorem spq_st {w w' : World} {R : Option (List V)} {e : Ending} (h : SpQ w R e w') : ∃ oa c ok l, stOf R = (l, !ok) ∧ e = .returned (.tuple #[.slice oa l.length c, .bool ok]) ∧ l.length ≤ c ∧ VAt w' oa l ∧ Gr w w' := by
  obtain ⟨hg, h⟩ := h
  cases R with
  | none => exact ⟨none, 0, false, [], rfl, h, Nat.le_refl _, .inl rfl, hg⟩
  | some vs =>
    obtain ⟨oa, c, h1, hc, h2⟩ := h
    exact ⟨oa, c, true, vs, rfl, h1, hc, h2, hg⟩
theorem rs_new {w : World} {oa : Option Addr} {l : List V} {c : Nat} (T : TypeId) (bad : Bool) (hc : l.length ≤ c) (h : VAt w oa l) : RS T w.heap.size (w.alloc (.cells #[.slice oa l.length c, .bool bad] T)) l bad := by
  refine ⟨oa, c, heap_alloc_new _ _, hc, h.keep ((Gr.refl _).alloc _), ?_⟩
  rcases h with h0 | ⟨b, off, e, hb, _⟩
  · exact .inl h0
  · exact .inr (fun b' off' e' => by rw [e] at e'; cases e'; exact hb)
theorem tx_call {p q base : Nat} {w0 w : World} {T : TypeId} {nm : ByteArray} {v1 v2 v3 : Value} {hd : Int} {cs : List Col} {xs : List Ix} {rs : List Int} {l : List V} {bad : Bool} (h : TX p q base w0 T nm v1 v2 hd v3 cs xs rs l bad w)
    {f : FuncId} {args : Array Value} {u : Value} {r : Sq} (hc : Calls Tryd.prog f args w (TfP T p w u r)) : Calls Tryd.prog f args w fun e w' => ∃ u', e = .returned u' ∧ (u' = u ∧ TX p q base w0 T nm v1 v2 hd v3 cs xs rs r.1 r.2 w') :=
  hc.mono fun e w' ⟨he, hr, hg⟩ => ⟨u, he, rfl, h.go hr hg⟩
theorem tx_new {w1 w2 : World} {p : Nat} {T : TypeId} {l : List V} {bad : Bool} (nm : ByteArray) (hr : RS T p w2 l bad) (hz : w1.heap.size ≤ p) (hg : Gr w1 w2) :
    TX p w2.heap.size (w2.heap.size + 1) w1 T nm (.slice none 0 0) (.slice none 0 0) 0 (.slice none 0 0) [] [] [] l bad (w2.alloc (.cells #[.string nm, .slice none 0 0, .slice none 0 0, .int .i64 0, .slice none 0 0] 29)) := by
  obtain ⟨oa, c, hh, _⟩ := hr.ex
  have hp : p < w2.heap.size := (Array.getElem?_eq_some_iff.1 hh).1
  exact ⟨hr.keep ((Gr.refl _).alloc _), heap_alloc_new _ _, World.ownsRow_nil _ _ _ _, World.ownsRow_nil _ _ _ _, World.ownsRow_nil _ _ _ _, hg.alloc _, hz, hp, Nat.lt_succ_self _, by simp⟩
/-- the reader behind so many takings -/
def seqS (ks : List Int) (q : Sq) : Nat → Sq
  | 0 => q
  | s + 1 => (takeR (ks.getD s 0) (seqS ks q s).1 (seqS ks q s).2).2
def tb3 (nm : ByteArray) (cs : List Col) (xs : List Ix) (hd : Int) (q : Sq) : Tb × Sq :=
  (mkT nm cs xs hd (its numR (cntR q.1 q.2).1.toNat (cntR q.1 q.2).2).1, (its numR (cntR q.1 q.2).1.toNat (cntR q.1 q.2).2).2)
def tb2h (nm : ByteArray) (cs : List Col) (xs : List Ix) (q : Sq) : Tb × Sq := tb3 nm cs xs (takeR 1 q.1 q.2).1.n (takeR 1 q.1 q.2).2
def tb2 (nm : ByteArray) (cs : List Col) (q : Sq) : Tb × Sq :=
  tb2h nm cs (its ixR (cntR q.1 q.2).1.toNat (cntR q.1 q.2).2).1 (its ixR (cntR q.1 q.2).1.toNat (cntR q.1 q.2).2).2
def tb1 (nm : ByteArray) (q : Sq) : Tb × Sq := tb2 nm (its colR (cntR q.1 q.2).1.toNat (cntR q.1 q.2).2).1 (its colR (cntR q.1 q.2).1.toNat (cntR q.1 q.2).2).2
theorem tb0 (q : Sq) : tabR q = tb1 (takeR 2 q.1 q.2).1.s (takeR 2 q.1 q.2).2 := rfl
/-- a loop of a reader of tables: k items are read -/
def TbRel {α : Type} (f : Sq → α × Sq) (q : Sq) (n : Int) (F : List α → Sq → World → Prop) (s : Value) (w : World) : Prop := ∃ k : Nat, s = .int .i64 (k : Int) ∧ (k : Int) ≤ n ∧ F (its f k q).1 (its f k q).2 w
theorem its_succ {α : Type} (f : Sq → α × Sq) (k : Nat) (q : Sq) : its f (k + 1) q = ((its f k q).1 ++ [(f (its f k q).2).1], (f (its f k q).2).2) := rfl
theorem cntR_bd (l : List V) (b : Bool) : 0 ≤ (cntR l b).1 ∧ (cntR l b).1 ≤ (l.length : Int) := by
  unfold cntR
  simp only
  have h := takeR_len 1 l b
  split
  · exact ⟨Int.le_refl _, by omega⟩
  · rename_i hn
    simp only [Bool.or_eq_true, decide_eq_true_eq] at hn
    exact ⟨by omega, by omega⟩
theorem cntR_len (l : List V) (b : Bool) : (cntR l b).2.1.length ≤ l.length := by
  unfold cntR
  simp only
  have h := takeR_len 1 l b
  split <;> exact h
theorem at_go {α : Type} {f : α → List Value} {n : Nat} {w w' : World} {p : Nat} {oa : Option Addr} {l : List α} (h : AtF f n w oa l) (hg : Go1 p w w') (hne : ∀ g o k, oa = some ⟨g, o, k⟩ → p < g) : AtF f n w' oa l := by
  rcases h with h | ⟨b, off, e1, hb, hr⟩
  · exact .inl h
  · refine .inr ⟨b, off, e1, Nat.lt_of_lt_of_le hb hg.size, fun i hi j u hu => ?_⟩
    rw [World.cell?_of_block (w := w) (hg.block b hb (fun e => by have := hne b off none e1; cases e; omega))]
    exact hr i hi j u hu
/-- the table that was read stands in its box, its rows behind it -/
structure TF (q : Nat) (w1 : World) (nm : ByteArray) (a1 a2 : Value) (hd : Int) (a3 : Value) (oc : Option Addr) (cs : List Col) (ox : Option Addr) (xs : List Ix) (od : Option Addr) (rs : List Int) (W : World) : Prop where
  h : W.heap[q]? = some (.cells #[.string nm, a1, a2, .int .i64 hd, a3] 29 (0, 0))
  g : Gr w1 W
  z : w1.heap.size ≤ q
  c : CAt W oc cs
  x : XAt W ox xs
  r : IAt W od rs
  c1 : ∀ g o k, oc = some ⟨g, o, k⟩ → q < g
  x1 : ∀ g o k, ox = some ⟨g, o, k⟩ → q < g
  r1 : ∀ g o k, od = some ⟨g, o, k⟩ → q < g
section
variable {q : Nat} {w1 W W' : World} {nm : ByteArray} {a1 a2 a3 v : Value} {hd : Int} {oc ox od : Option Addr} {cs : List Col} {xs : List Ix} {rs : List Int}
theorem TF.lt (h : TF q w1 nm a1 a2 hd a3 oc cs ox xs od rs W) : q < W.heap.size := (Array.getElem?_eq_some_iff.1 h.h).1
theorem TF.gr (h : TF q w1 nm a1 a2 hd a3 oc cs ox xs od rs W) (hg : Gr W W') : TF q w1 nm a1 a2 hd a3 oc cs ox xs od rs W' :=
  ⟨by rw [hg.block q h.lt]; exact h.h, h.g.trans hg, h.z, h.c.keep hg, h.x.keep hg, h.r.keep hg, h.c1, h.x1, h.r1⟩
theorem TF.set (h : TF q w1 nm a1 a2 hd a3 oc cs ox xs od rs W) (k : Nat) (v : Value) {b1 b2 b3 : Value} (hl : [Value.string nm, a1, a2, .int .i64 hd, a3].set k v = [.string nm, b1, b2, .int .i64 hd, b3]) : TF q w1 nm b1 b2 hd b3 oc cs ox xs od rs (W.setCell ⟨q, k, none⟩ v) := by
  have G := Go1.set q k W v
  refine ⟨?_, h.g.setCell h.z _, h.z, at_go h.c G h.c1, at_go h.x G h.x1, at_go h.r G h.r1, h.c1, h.x1, h.r1⟩
  have := box_set W q 29 [.string nm, a1, a2, .int .i64 hd, a3] k v h.h
  rw [hl] at this
  exact this
end
/-- a table that was read stands, its rows with it -/
theorem TX.fin {p q base : Nat} {w0 w : World} {T : TypeId} {nm : ByteArray} {v1 v2 v3 : Value} {hd : Int} {cs : List Col} {xs : List Ix} {rs : List Int} {l : List V} {bad : Bool} (h : TX p q base w0 T nm v1 v2 hd v3 cs xs rs l bad w) :
    ∃ oc c1 ox c2 od c3, v1 = .slice oc cs.length c1 ∧ v2 = .slice ox xs.length c2 ∧ v3 = .slice od rs.length c3 ∧ cs.length ≤ c1 ∧ xs.length ≤ c2 ∧ rs.length ≤ c3 ∧ TF q w0 nm v1 v2 hd v3 oc cs ox xs od rs w := by
  obtain ⟨oc, c1, e1, hc, l1, b1⟩ := own_at cE h.c
  obtain ⟨ox, c2, e2, hx, l2, b2⟩ := own_at xE h.x
  obtain ⟨od, c3, e3, hi, l3, b3⟩ := own_at iE h.i
  have hz := h.z2
  have z0 := h.z0
  have z1 := h.z1
  exact ⟨oc, c1, ox, c2, od, c3, e1, e2, e3, l1, l2, l3, h.h, h.g, by omega, hc, hx, hi, fun g o k e => by have := b1 g o k e; omega, fun g o k e => by have := b2 g o k e; omega, fun g o k e => by have := b3 g o k e; omega⟩
theorem TF.at (q : Nat) {w1 W : World} {nm : ByteArray} {a1 a2 a3 : Value} {hd : Int} {oc ox od : Option Addr} {cs : List Col} {xs : List Ix} {rs : List Int} (h : TF q w1 nm a1 a2 hd a3 oc cs ox xs od rs W) (k1 k2 k3 : Nat) (hl : cs.length ≤ 1000000000 ∧ xs.length ≤ 1000000000 ∧ rs.length ≤ 1000000000) : TbAt W ⟨nm, oc, cs, k1, ox, xs, k2, hd, od, rs, k3⟩ :=
  ⟨h.c, h.x, h.r, by show cs.length ≤ _; omega, by show xs.length ≤ _; omega, by show rs.length ≤ _; omega⟩
theorem box_all {w : World} {q : Nat} {T : TypeId} {x0 x1 x2 x3 x4 : Value} (h : w.heap[q]? = some (.cells #[x0, x1, x2, x3, x4] T (0, 0))) (a b c d e : Value) :
    (((((w.setCell ⟨q, 0, none⟩ a).setCell ⟨q, 1, none⟩ b).setCell ⟨q, 2, none⟩ c).setCell ⟨q, 3, none⟩ d).setCell ⟨q, 4, none⟩ e).heap[q]? = some (.cells #[a, b, c, d, e] T (0, 0)) := by
  have h1 := box_set w q T [x0, x1, x2, x3, x4] 0 a h
  have h2 := box_set _ q T [a, x1, x2, x3, x4] 1 b h1
  have h3 := box_set _ q T [a, b, x2, x3, x4] 2 c h2
  have h4 := box_set _ q T [a, b, c, x3, x4] 3 d h3
  exact box_set _ q T [a, b, c, d, x4] 4 e h4
end Go.Proofs.YtacbhkmkknicoaaDoor
