/- Texts of this claim, put together: walks of functions and plain laws, of no condition. -/
import Derived.Test.YtaogpifcfmjcbaaCc2
import Derived.Deep.MidRow
import Derived.Defers
import Derived.IntWalk
section
namespace Go.Proofs.Ytaogpifcfmjcbaa
open Go.RowKit
set_option linter.unusedSimpArgs false
set_option linter.unusedVariables false
variable {α β : Type}
theorem KL.aside {K : Kd α β} (hK : K.Ok) {A p S0 : Nat} {v1 v1' v2 : Value} {w3 W : World} {ys : List β} (h : KL K (fun b => A ≤ b ∧ v1.ownBlock ≠ some b) w3 v2 ys) (hk : Kp p S0 v1 w3 W) (hm : Moved v1 w3 v1') (hp : p < A) (hS : S0 < A) : KL K (fun b => A ≤ b ∧ v1'.ownBlock ≠ some b) W v2 ys := by
  have h1 := h.mono hK (S' := fun b => A ≤ b ∧ v1.ownBlock ≠ some b ∧ v1'.ownBlock ≠ some b) (fun b hb hs => ⟨hs.1, hs.2, fun e => by
    rcases hm with hm | hm
    · rw [hm] at e; exact hs.2 e
    · have := hm b e; omega⟩)
  exact (h1.keep hK hk.size (fun b hs hl => hk.block b hl (by omega) (by omega) hs.2.1)).mono hK (fun b _ hs => ⟨hs.1, hs.2.2⟩)
theorem KL.aside_go {K : Kd α β} (hK : K.Ok) {A p : Nat} {v1 v2 : Value} {w3 W : World} {ys : List β} (h : KL K (fun b => A ≤ b ∧ v1.ownBlock ≠ some b) w3 v2 ys) (hg : Go1 p w3 W) (hp : p < A) : KL K (fun b => A ≤ b ∧ v1.ownBlock ≠ some b) W v2 ys :=
  h.go hK hg (fun hh => by have := hh.1; omega)
def SqRel (L : List β → World → Prop) (q : Pa β) (p N : Nat) (R : List β × Ps) (b : Bool) (wr : World) : Prop :=
  ∃ ys l0 s n, L ys wr ∧ PS p wr s ∧ (if b then ys = l0 ∧ seps q n l0 s = R ∧ s.size + 1 ≤ n ∧ ys.length + s.size ≤ N else (s.good = true → ys = l0) ∧ (l0, s) = R ∧ ys.length ≤ N + 1)
theorem SqRel.start {L : List β → World → Prop} {q : Pa β} {p N : Nat} {R : List β × Ps} {wr : World} {s : Ps} (hL : L [] wr) (hps : PS p wr s) (hN : s.size ≤ N) (hR : sep q s = R) : SqRel L q p N R true wr :=
  ⟨[], [], s, s.size + 1, hL, hps, by rw [if_pos rfl]; exact ⟨rfl, hR, Nat.le_refl _, by simpa using hN⟩⟩
theorem SqRel.yes {L : List β → World → Prop} {q : Pa β} {p N : Nat} {R : List β × Ps} {wr : World} (h : SqRel L q p N R true wr) : ∃ ys s n, L ys wr ∧ PS p wr s ∧ seps q n ys s = R ∧ s.size + 1 ≤ n ∧ ys.length + s.size ≤ N := by
  obtain ⟨ys, l0, s, n, h1, h2, h3⟩ := h
  rw [if_pos rfl] at h3
  obtain ⟨rfl, h4, h5, h6⟩ := h3
  exact ⟨ys, s, n, h1, h2, h4, h5, h6⟩
theorem SqRel.no {L : List β → World → Prop} {q : Pa β} {p N : Nat} {R : List β × Ps} {wr : World} (h : SqRel L q p N R false wr) : ∃ ys, L ys wr ∧ PS p wr R.2 ∧ (R.2.good = true → ys = R.1) ∧ ys.length ≤ N + 1 := by
  obtain ⟨ys, l0, s, n, h1, h2, h3⟩ := h
  rw [if_neg (by decide)] at h3
  obtain ⟨h3, rfl, h5⟩ := h3
  exact ⟨ys, h1, h2, h3, h5⟩
theorem SqRel.next {L : List β → World → Prop} {q : Pa β} (hni : NI q) {p N : Nat} {R : List β × Ps} {w7 : World} {ys : List β} {y : β} {s : Ps} {n : Nat} (hL : L (ys ++ [y]) w7) (hps : PS p w7 ((q s).2.may 4 ⟨#[44]⟩).2) (hR : seps q n ys s = R) (hn : s.size + 1 ≤ n) (hN : ys.length + s.size ≤ N) (hy : (q s).2.good = true → y = (q s).1) :
    SqRel L q p N R ((q s).2.is 4 ⟨#[44]⟩) w7 ∧ mB (.bool ((q s).2.is 4 ⟨#[44]⟩)) (lenAt p w7) < s.size + 1 := by
  cases n with
  | zero => omega
  | succ n =>
    have hsz := hni s
    unfold seps at hR
    simp only at hR
    cases hb : (q s).2.is 4 ⟨#[44]⟩ with
    | true =>
      have e2 : ((q s).2.may 4 ⟨#[44]⟩).2 = (q s).2.step := by simp [Ps.may, hb]
      obtain ⟨h1, h2, h3⟩ := is_step hb (by decide)
      rw [e2] at hps
      rw [hb, if_pos rfl] at hR
      have hyy := hy h3
      refine ⟨⟨ys ++ [y], ys ++ [(q s).1], (q s).2.step, n, hL, hps, ?_⟩, ?_⟩
      · rw [if_pos rfl]
        exact ⟨by rw [hyy], hR, by omega, by simp; omega⟩
      · show lenAt p w7 + 1 < _
        rw [lenAt_ps hps]; omega
    | false =>
      have e2 : ((q s).2.may 4 ⟨#[44]⟩).2 = (q s).2 := by simp [Ps.may, hb]
      rw [e2] at hps
      rw [hb, if_neg (by decide)] at hR
      refine ⟨⟨ys ++ [y], ys ++ [(q s).1], (q s).2, n, hL, hps, ?_⟩, Nat.succ_pos _⟩
      rw [if_neg (by decide)]
      exact ⟨fun h => by rw [hy h], hR, by simp; omega⟩
def putL : List Value → Nat → List Value → List Value
  | l, _, [] => l
  | l, o, v :: vs => putL (l.set o v) (o + 1) vs
theorem setCells_heap {T : TypeId} {g : Nat} : ∀ (vs : List Value) (o : Nat) (l : List Value) (w : World), w.heap[g]? = some (.cells l.toArray T (0, 0)) → (w.setCells g o vs).heap[g]? = some (.cells (putL l o vs).toArray T (0, 0))
  | [], o, l, w, h => h
  | v :: vs, o, l, w, h => setCells_heap vs (o + 1) (l.set o v) _ (cells_set o v h)
theorem setCells_go {g : Nat} : ∀ (vs : List Value) (o : Nat) (w : World), Go1 g w (w.setCells g o vs)
  | [], o, w => .refl _ _
  | v :: vs, o, w => (Go1.set g o w v).trans (setCells_go vs (o + 1) _)
theorem st_part {P : Program} {ops : Array Oper} {rest : List Oper} {o : Oper} {a : Act} {w : World} {Q : Exit → Act → World → Prop} {ty : TypeId} {x y : Operand} (ho : o.op = .store ty x y) (hgd : o.guard = none)
    (g off : Nat) (cells : Array Value) (hx : a.eval x = .pointer (some ⟨g, off, none⟩)) (hy : a.eval y = .agg cells)
    (t : TypeId) (old : List Value) (hg : w.heap[g]? = some (.cells old.toArray t (0, 0))) (hi : (P.info? ty).map (·.size) = some cells.size)
    (hlen : off + cells.size ≤ old.length) (h1 : cells.all (·.oneCell') = true)
    (hK : ∀ W, W.heap[g]? = some (.cells (putL old off cells.toList).toArray t (0, 0)) → Go1 g w W → wpList P ops Q rest (a.put o.dst undef) W) : wpList P ops Q (o :: rest) a w :=
  wpList_store_mid hgd ty x y ho g off cells hx hy (fun j hj => ⟨by
    rw [Rg.blk_cells hg]
    have : off + j < old.length := by omega
    simp [this], Rg.blk_free hg _⟩) hi h1 (hK _ (setCells_heap _ _ _ _ hg) (setCells_go _ _ _))
section
variable {p : Nat} {w : World} {R0 S0 : Nat} {cs cs' : List Value} {wl W : World}
theorem SB.part (h : SB p w R0 S0 cs wl) (hs : W.heap[S0]? = some (.cells cs'.toArray 35 (0, 0))) (hg : Go1 S0 wl W) : SB p w R0 S0 cs' W :=
  have h1 := h.hS
  have h0 := h.hR
  have hl := h.lt
  ⟨h.hp, h.hR, h.hS, by rw [hg.get (by omega) (by omega)]; exact h.z, hs, h.g.own hg (by omega)⟩
end
set_option maxRecDepth 100000 in
theorem put_where (r : SR) (x : XR) : putL (SR.cs r) 13 (xF x) = SR.cs { r with wher := x } := rfl
set_option maxRecDepth 100000 in
theorem put_having (r : SR) (x : XR) : putL (SR.cs r) 25 (xF x) = SR.cs { r with having := x } := rfl
end Go.Proofs.Ytaogpifcfmjcbaa
end
section
namespace Go.Proofs.Ytaogpifcfmjcbaa
open Go.RowKit
set_option linter.unusedSimpArgs false
set_option linter.unusedVariables false
variable {α β : Type}
theorem KL.pushA {K : Kd α β} (hK : K.Ok) {t : TypeId} {bytes : Nat} (hT : KT K t bytes) (ty : TypeId) {p : Nat} {w W : World} {S : Nat → Prop} {v : Value} {ys : List β} {y : β} {r : α} {s : Ps} {cl : Array Value}
    (hp : p < w.heap.size) (hS1 : ∀ b, S b → w.heap.size ≤ b) (hS2 : ∀ b, W.heap.size ≤ b → S b) (hL : KL K S W v ys) (hn : ys.length ≤ 1000000) (hps : PS p W s) (hg : Go1 p w W) (hy : K.E (fun b => S b ∧ v.ownBlock ≠ some b) W y r) (hcl : cl.toList = K.f r) :
    ∃ v' w6, (Builtin.append_ #[t, t] ty #[v, .slice (some ⟨W.heap.size, 0, none⟩) 1 1]).run Try.prog (W.alloc (.cells cl K.T)) = .ok v' w6 ∧ KL K S w6 v' (ys ++ [y]) ∧ PS p w6 s ∧ Go1 p w w6 := by
  have hA := (Gr.refl W).alloc (.cells cl K.T)
  have hL' := hL.gr hK hA
  obtain ⟨v', w6, hrun, r1, r2, r3⟩ := hL'.push hK hT ty (by omega) (fun b hb => hS2 b (by simp at hb; omega)) (hK.of hA.size (fun b _ hl => hA.block b hl) hy) (alloc_at W (.cells cl K.T)) hcl
  have hz := r2.size
  simp only [World.size_alloc] at hz
  refine ⟨v', w6, hrun, r1, hps.low (by omega) (fun i hi hl => ?_), (hg.block2 hA).trans' r2 (fun g e => hS1 g (hL'.blk e).1)⟩
  rw [r2.block i (by simp; omega) (fun e => by have := hS1 i (hL'.blk e.symm).1; omega), hA.block _ hl]
def RkL (K : Kd α β) (p : Nat) (w : World) (q : List β × Ps) (u : Value) (w' : World) : Prop := ∃ sl ys, u = Slc.val sl ∧ KsAt K (Nw w) w' ys sl ∧ PS p w' q.2 ∧ Go1 p w w' ∧ (q.2.good = true → ys = q.1)
theorem ks_one {K : Kd α β} (hK : K.Ok) {S : Nat → Prop} {w : World} {y : β} {r : α} {g : Nat} {cs : Array Value} (hg : w.heap[g]? = some (.cells cs K.T (0, 0))) (hcs : cs.toList = K.f r) (hS : S g) (hy : K.E S w y r) : KsAt K S w [y] ⟨some ⟨g, 0, none⟩, 1, 1⟩ := by
  refine ⟨rfl, fit_le 1 (by decide), [r], Es.snoc Es.nil hy, .inr ⟨g, 0, rfl, (Array.getElem?_eq_some_iff.1 hg).1, hS, Rg.blk_free hg, fun k hk j u hu => ?_⟩⟩
  have hk0 : k = 0 := by simp at hk; omega
  subst hk0
  simp only [List.getElem_cons_zero] at hu
  rw [Rg.blk_cells hg]
  rw [← hcs] at hu
  simpa using hu
end Go.Proofs.Ytaogpifcfmjcbaa
end
section
namespace Go.Proofs.Ytaogpifcfmjcbaa
set_option linter.unusedVariables false
theorem lefts_bad {ops : List (ByteArray × Int)} {k : Nat} {p : Pa Ex} (n : Nat) (e : Ex) (x : Int) (a : Nat) : (lefts ops k p n e (.bad x a)) = (e, .bad x a) := by
  cases n with
  | zero => rfl
  | succ n =>
    unfold lefts
    have : ops.find? (fun o => Ps.is k o.1 (.bad x a)) = none := by
      rw [List.find?_eq_none]; intro o _; simp [Ps.is]
    rw [this]
def KB {α : Type} (p : Pa α) : Prop := ∀ x a, (p (.bad x a)).2 = .bad x a
theorem kb_left {ops : List (ByteArray × Int)} {k : Nat} {p : Pa Ex} (h : KB p) : KB (left ops k p) := fun x a => by
  unfold left
  simp only
  rw [h x a, lefts_bad]
theorem kb_ahead {k : Nat} {c : ByteArray} {op : Int} {p : Pa Ex} (h : KB p) (n : Nat) : KB (ahead k c op p n) := fun x a => by
  cases n with
  | zero => exact h x a
  | succ n => unfold ahead; simp only [Ps.is, Bool.false_eq_true, if_false]; exact h x a
theorem kb_compares {p E : Pa Ex} (h : KB p) : KB (compares p E) := fun x a => by
  unfold compares
  simp only
  rw [h x a]
  rfl
theorem kb_lvl (E : Pa Ex) : KB (lvl E) := by
  have k1 : KB (single E) := fun x a => rfl
  have k2 : KB (minuses (single E)) := fun x a => kb_ahead k1 _ x a
  have k3 : KB (compares (sums (prods (minuses (single E)))) E) := kb_compares (kb_left (kb_left k2))
  have k4 : KB (nots (compares (sums (prods (minuses (single E)))) E)) := fun x a => kb_ahead k3 _ x a
  exact kb_left (kb_left k4)
theorem kb_expr (n : Nat) : KB (expr n) := by cases n <;> exact kb_lvl _
theorem kb_exprS : KB exprS := fun x a => kb_expr _ x a
theorem kb_good {α : Type} {p : Pa α} (h : KB p) {s : Ps} (hg : (p s).2.good = true) : s.good = true := by
  cases s with
  | ok l d => rfl
  | bad x a => rw [h x a] at hg; cases hg
theorem kb_sep {α : Type} {p : Pa α} (h : KB p) : KB (sep p) := fun x a => by
  unfold sep
  simp only [seps]
  rw [h x a]
  rfl
theorem kb_name : KB Ps.name := fun x a => rfl
theorem kb_clauseS (c : ByteArray) : KB (clauseS c) := fun x a => rfl
theorem kb_rowS : KB rowS := fun x a => by
  have h := kb_sep kb_exprS
  unfold rowS
  generalize sep exprS = E at *
  simp only
  rw [show Ps.need 4 ⟨#[40]⟩ (.bad x a) = .bad x a from rfl, h x a]
  rfl
theorem kb_refS : KB refS := fun x a => rfl
theorem kb_itemS : KB itemS := fun x a => by
  unfold itemS
  simp only
  rw [kb_exprS x a]
  rfl
theorem kb_itemsS : KB itemsS := fun x a => by
  have h := kb_sep kb_itemS
  unfold itemsS
  generalize sep itemS = E at *
  exact h x a
theorem kb_ordS : KB ordS := fun x a => by
  unfold ordS
  simp only
  rw [kb_exprS x a]
  rfl
theorem may_good {s : Ps} {k : Nat} {c : ByteArray} (h : (s.may k c).2.good = true) : s.good = true := by
  cases s with
  | ok l d => rfl
  | bad x a => cases h
theorem step_good {s : Ps} (h : s.step.good = true) : s.good = true := by
  cases s with
  | ok l d => rfl
  | bad x a => cases h
theorem kneed_good {s : Ps} {k : Nat} {c : ByteArray} (h : (s.need k c).good = true) : s.good = true := by
  cases s with
  | ok l d => rfl
  | bad x a => cases h
end Go.Proofs.Ytaogpifcfmjcbaa
end
section
namespace Go.Proofs.Ytaogpifcfmjcbaa
open Go.RowKit
set_option linter.unusedVariables false
theorem as_good {s t : Ps} (h : As s t) (k : t.good = true) : s.good = true := by
  match t, k with
  | .ok l d, _ =>
    rcases h with h | h
    · cases h
    · cases s with
      | ok l' d' => rfl
      | bad e a => cases h
theorem fail_no (s : Ps) : ¬ (s.fail 180).good = true := by
  intro h
  match s, h with
  | .ok [] d, h => cases h
  | .ok (t :: r) d, h => cases h
  | .bad e a, h => cases h
theorem own_blk {w : World} {base g : Nat} {cs : Array Value} {r : XR} (h : w.heap[g]? = some (.cells cs 32 (0, 0))) (hcs : cs.toList = xF r) (hb : base ≤ g) : w.ownsRow base 32 12 (.slice (some ⟨g, 0, none⟩) 1 1) 1 (xF r) := by
  refine ⟨rfl, .inr ⟨g, 1, cs, rfl, hb, h, Nat.le_refl _, by decide, ?_, ?_⟩⟩
  · have := congrArg List.length hcs
    simpa [xF] using this
  · rw [hcs]; rfl
def LsS (p : Nat) (w : World) (S0 : Nat → Prop) (r : XR) (x : Ex) (q : List Ex × Ps) (s : Ps) (i2 i4 i5 : Nat) (D : Nat → Bool) (v : Nat → Value) (W : World) : Prop :=
  Go1 p w W ∧ (D i5 = true → D i2 = true ∧ D i4 = true) ∧ if D i5 then ∃ oa n cap xs, v i5 = .slice oa n cap ∧ XsAt (fun b => S0 b ∨ w.heap.size ≤ b) W (x :: xs) oa n cap ∧ PS p W q.2 ∧ (q.2.good = true → xs = q.1)
  else (D i4 = false → PS p W s) ∧ (D i2 = true → ∃ g, v i2 = .slice (some ⟨g, 0, none⟩) 1 1 ∧ w.heap.size ≤ g ∧ W.heap[g]? = some (.cells r.cells 32 (0, 0))) ∧
    (D i4 = true → ∃ oa n cap xs, v i4 = .slice oa n cap ∧ XsAt (fun b => w.heap.size ≤ b ∧ (D i2 = true → (v i2).ownBlock ≠ some b)) W xs oa n cap ∧ PS p W q.2 ∧ n ≤ 1000001 ∧ (oa = none → cap = 0) ∧ (q.2.good = true → xs = q.1))
section
variable {p : Nat} {w : World} {S0 : Nat → Prop} {r : XR} {x : Ex} {q : List Ex × Ps} {s : Ps} {i2 i4 i5 : Nat} {D : Nat → Bool} {v : Nat → Value} {W : World}
theorem LsS.go (h : LsS p w S0 r x q s i2 i4 i5 D v W) : Go1 p w W := h.1
theorem LsS.start (hps : PS p w s) (hG : Gr w W) (v : Nat → Value) : LsS p w S0 r x q s i2 i4 i5 (fun _ => false) v W :=
  ⟨.of hG, fun h => (by cases h), by simp; exact hps.keep hG⟩
theorem LsS.row (h25 : i2 ≠ i5) (h24 : i2 ≠ i4) (h5 : D i5 = false) (h2 : D i2 = false) (h : LsS p w S0 r x q s i2 i4 i5 D v W) :
    LsS p w S0 r x q s i2 i4 i5 (Rg.ins D i2) (Rg.upd v i2 (.slice (some ⟨W.heap.size, 0, none⟩) 1 1)) (W.alloc (.cells r.cells 32)) := by
  obtain ⟨hg, hd, h⟩ := h
  rw [h5] at h
  simp only [Bool.false_eq_true, if_false] at h
  obtain ⟨ha, hb, hc⟩ := h
  have hA := (Gr.refl W).alloc (.cells r.cells 32)
  have e5 : Rg.ins D i2 i5 = false := by simp [Rg.ins, Ne.symm h25, h5]
  have e4 : Rg.ins D i2 i4 = D i4 := by simp [Rg.ins, Ne.symm h24]
  have e2 : Rg.ins D i2 i2 = true := by simp [Rg.ins]
  have v4 : ∀ u, Rg.upd v i2 u i4 = v i4 := fun u => by simp [Rg.upd, Ne.symm h24]
  have v2 : ∀ u, Rg.upd v i2 u i2 = u := fun u => by simp [Rg.upd]
  refine ⟨hg.block2 hA, fun h => absurd h (by rw [e5]; decide), ?_⟩
  rw [e5]
  simp only [Bool.false_eq_true, if_false, e4, e2, v2, v4]
  refine ⟨fun h => (ha h).keep hA, fun _ => ⟨_, rfl, hg.size, alloc_at _ _⟩, fun h => ?_⟩
  obtain ⟨oa, n, cap, xs, k1, k2, k3, k4, k5, k6⟩ := hc h
  refine ⟨oa, n, cap, xs, k1, ?_, k3.keep hA, k4, k5, k6⟩
  refine (k2.mono (fun b hb hs => ⟨hs.1, fun _ e => ?_⟩)).of hA.size (fun b _ hb => hA.block b hb)
  simp [Value.ownBlock] at e
  omega
theorem LsS.call {u : Value} {W' : World} (hpw : p < w.heap.size) (h45 : i4 ≠ i5) (h24 : i2 ≠ i4) (h5 : D i5 = false) (h : LsS p w S0 r x q s i2 i4 i5 D v W) (hR : Rxs p W q u W') :
    LsS p w S0 r x q s i2 i4 i5 (Rg.ins D i4) (Rg.upd v i4 u) W' := by
  obtain ⟨hg, hd, h⟩ := h
  rw [h5] at h
  simp only [Bool.false_eq_true, if_false] at h
  obtain ⟨ha, hb, hc⟩ := h
  obtain ⟨oa, n, cap, xs, rfl, k2, k3, k4, k5, k6, k7⟩ := hR
  have e5 : Rg.ins D i4 i5 = false := by simp [Rg.ins, Ne.symm h45, h5]
  have e4 : Rg.ins D i4 i4 = true := by simp [Rg.ins]
  have e2 : Rg.ins D i4 i2 = D i2 := by simp [Rg.ins, h24]
  have v4 : ∀ u, Rg.upd v i4 u i4 = u := fun u => by simp [Rg.upd]
  have v2 : ∀ u, Rg.upd v i4 u i2 = v i2 := fun u => by simp [Rg.upd, h24]
  refine ⟨hg.trans k4, fun h => absurd h (by rw [e5]; decide), ?_⟩
  rw [e5]
  simp only [Bool.false_eq_true, if_false, e4, e2, v2, v4]
  refine ⟨fun h => absurd h (by decide), fun h => ?_, fun _ => ⟨oa, n, cap, xs, rfl, k2.mono (fun b hl hs => ⟨Nat.le_trans hg.size hs, fun h e => ?_⟩), k3, k5, k6, k7⟩⟩
  · obtain ⟨g, g1, g2, g3⟩ := hb h
    have hgl : g < W.heap.size := (Array.getElem?_eq_some_iff.1 g3).1
    exact ⟨g, g1, g2, by rw [k4.get hgl (by omega)]; exact g3⟩
  · obtain ⟨g, g1, g2, g3⟩ := hb h
    have hgl : g < W.heap.size := (Array.getElem?_eq_some_iff.1 g3).1
    rw [g1] at e
    simp [Value.ownBlock] at e
    have : W.heap.size ≤ b := hs
    omega
theorem LsS.ready (h5 : D i5 = false) (h4 : D i4 = false) (h : LsS p w S0 r x q s i2 i4 i5 D v W) : PS p W s := by
  obtain ⟨hg, hd, h⟩ := h
  rw [h5] at h
  simp only [Bool.false_eq_true, if_false] at h
  exact h.1 h4
theorem info_size {P : Program} {t : TypeId} {z : Value} {a b : Nat} (h : (P.info? t).map (fun i => (i.zero, i.size, i.bytes)) = some (some z, a, b)) : ∃ i, P.info? t = some i ∧ i.zero = some z ∧ i.size = a ∧ i.bytes = b := by
  cases hi : P.info? t with
  | none => rw [hi] at h; cases h
  | some i => rw [hi] at h; simp at h; exact ⟨i, rfl, h.1, h.2.1, h.2.2⟩
theorem LsS.append (hpw : p < w.heap.size) (h25 : i2 ≠ i5) (h45 : i4 ≠ i5) (h5 : D i5 = false) (h4 : D i4 = true) (h2 : D i2 = true) (hx : Ex.At S0 w x r) (hS0 : ∀ b, S0 b → b ≠ p) (ty : TypeId) (h : LsS p w S0 r x q s i2 i4 i5 D v W) :
    ∃ v1 v2 v' W', v i2 = v1 ∧ v i4 = v2 ∧ (Builtin.append_ #[26, 26] ty #[v1, v2]).run Try.prog W = .ok v' W' ∧ LsS p w S0 r x q s i2 i4 i5 (Rg.ins D i5) (Rg.upd v i5 v') W' := by
  obtain ⟨hg, hd, h⟩ := h
  rw [h5] at h
  simp only [Bool.false_eq_true, if_false] at h
  obtain ⟨ha, hb, hc⟩ := h
  obtain ⟨g, g1, g2, g3⟩ := hb h2
  obtain ⟨oa, n, cap, xs, k1, k2, k3, k4, k5, k6⟩ := hc h4
  have hgl : g < W.heap.size := (Array.getElem?_eq_some_iff.1 g3).1
  rw [g1] at k2
  obtain ⟨l1, l2, rs, l3, l4, l5⟩ := k2
  obtain ⟨i0, hi0, hz0, hz1, hz2⟩ := info_size x_info
  have hwz := hg.size
  obtain ⟨v', W', hrun, r1, r2, r3⟩ := runs_append (P := Try.prog) W 26 ty w.heap.size 32 i0 _ 12 128 Try.underlying26 hi0 hz0 hz1 hz2 rfl (by decide) g 1 1 (xF r) (own_blk (w := W) (base := w.heap.size) g3 rfl g2) oa n cap (cellsF xF rs)
    (by rw [xE.cells_len, l3, ← l1]) (fun e => by subst e; have := k5 rfl; have := l2.1; omega) (fun ad had j u hu => by
      rcases l4 with l4 | ⟨b, off, e, hbl, hs, hf, hr⟩
      · subst l4; simp [cellsF] at hu
      · subst e; cases had; exact RowF.cells xE hr j u hu) (xE.cells_one rs) (by unfold maxLen; omega) (by omega) (by omega)
  refine ⟨_, _, v', W', g1, k1, hrun, ?_⟩
  have hz := r2.size
  have keepB : ∀ b, b < W.heap.size → b ≠ g → W'.heap[b]? = W.heap[b]? := fun b hb hne => r2.block b hb (fun e => by simp [Value.ownBlock] at e; exact hne e)
  have hGo : Go1 p w W' := hg.trans' r2 (fun g' e => by simp [Value.ownBlock] at e; omega)
  refine ⟨hGo, fun _ => ⟨by simp [Rg.ins, h2], by simp [Rg.ins, h4]⟩, ?_⟩
  rw [show Rg.ins D i5 i5 = true by simp [Rg.ins]]
  simp only [if_true, upd_same]
  have hlen : (r :: rs).length = 1 + n := by simp [l3, l1]; omega
  have r1' : W'.ownsRow w.heap.size 32 12 v' (r :: rs).length (cellsF xF (r :: rs)) := by rw [hlen]; exact r1
  obtain ⟨oa', cap', rfl, hc', hrow, _⟩ := own_row (S := fun b => S0 b ∨ w.heap.size ≤ b) r1' (fun b hb _ => .inr hb)
  refine ⟨oa', (r :: rs).length, cap', xs, rfl, ⟨by simp [l3], ⟨hc', by show (r :: rs).length ≤ 2000000; rw [hlen]; omega⟩, r :: rs, by simp [l3], hrow, Exs.At.cons ?_ ?_⟩, k3.low hz (fun i hi hl => keepB i hl (by omega)), k6⟩
  · refine (((hx.mono (S' := fun b => S0 b ∧ b < w.heap.size) (fun b hl hs => ⟨hs, hl⟩)).of hwz (fun b hb hl => hg.get hl (hS0 b hb.1))).of hz (fun b hb hl => keepB b hl (by have := hb.2; omega))).mono (fun b _ hb => .inl hb.1)
  · refine (l5.of hz (fun b hb hl => keepB b hl (fun e => ?_))).mono (fun b _ hb => .inr hb.1)
    exact hb.2 h2 (by simp [Value.ownBlock, e])
theorem LsS.n2 (h2 : D i2 = false) (h : LsS p w S0 r x q s i2 i4 i5 D v W) : D i5 = false := by
  cases h5 : D i5 with
  | false => rfl
  | true => have := (h.2.1 h5).1; rw [h2] at this; cases this
theorem LsS.n4 (h4 : D i4 = false) (h : LsS p w S0 r x q s i2 i4 i5 D v W) : D i5 = false := by
  cases h5 : D i5 with
  | false => rfl
  | true => have := (h.2.1 h5).2; rw [h4] at this; cases this
theorem LsS.fin (h5 : D i5 = true) (h : LsS p w S0 r x q s i2 i4 i5 D v W) : ∃ oa n cap xs, v i5 = .slice oa n cap ∧ XsAt (fun b => S0 b ∨ w.heap.size ≤ b) W (x :: xs) oa n cap ∧ PS p W q.2 ∧ (q.2.good = true → xs = q.1) := by
  obtain ⟨hg, hd, h⟩ := h
  rw [h5] at h
  simpa only [if_true] using h
end
theorem alloc_at' (w : World) (o : Obj) (n : Nat) (h : n = w.heap.size) : (w.alloc o).heap[n]? = some o := by subst h; exact alloc_at w o
end Go.Proofs.Ytaogpifcfmjcbaa
end
section
namespace Go.Proofs.Ytaogpifcfmjcbaa
open Go.RowKit
set_option linter.unusedSimpArgs false
set_option linter.unusedVariables false
attribute [local go_sem] Rg.leads_value Rg.leads_skip Rg.leads_enter Rg.brings_value Rg.brings_skip Rg.brings_enter Rg.bringsG_value Rg.bringsG_enter Rg.once_normal Rg.once_exit Rg.once_ret Rg.once_panic Rg.once_goto
def idx4 (b0 b1 b2 b3 : Bool) : Int := if b0 then 0 else if b1 then 1 else if b2 then 2 else if b3 then 3 else -1
set_option maxHeartbeats 4000000 in
set_option maxRecDepth 100000 in
theorem index4 (g : Nat) (s a0 a1 a2 a3 : ByteArray) (w : World) (c0 : w.cell? ⟨g, 0, none⟩ = some (.string a0)) (c1 : w.cell? ⟨g, 1, none⟩ = some (.string a1)) (c2 : w.cell? ⟨g, 2, none⟩ = some (.string a2)) (c3 : w.cell? ⟨g, 3, none⟩ = some (.string a3)) :
    Calls Try.prog 92 #[.slice (some ⟨g, 0, none⟩) 4 4, .string s] w fun e w' => e = .returned (.int .i64 (idx4 (s.toList == a0.toList) (s.toList == a1.toList) (s.toList == a2.toList) (s.toList == a3.toList))) ∧ w' = w := by
  unfold idx4
  cases h0 : (s.toList == a0.toList) with
  | true =>
    simp only [if_true]
    go_enter Try.func92, Try.ntmps92
    go_wp2_with fail
    refine wp_loop_rounds 5 ?_
    rw [rounds_succ]
    go_wp2
    go_ret
    exact ⟨rfl, rfl⟩
  | false =>
    cases h1 : (s.toList == a1.toList) with
    | true =>
      simp only [if_true, Bool.false_eq_true, if_false]
      go_enter Try.func92, Try.ntmps92
      go_wp2_with fail
      refine wp_loop_rounds 5 ?_
      rw [rounds_succ]
      go_wp2
      rw [rounds_succ]
      go_wp2
      go_ret
      exact ⟨rfl, rfl⟩
    | false =>
      cases h2 : (s.toList == a2.toList) with
      | true =>
        simp only [if_true, Bool.false_eq_true, if_false]
        go_enter Try.func92, Try.ntmps92
        go_wp2_with fail
        refine wp_loop_rounds 5 ?_
        rw [rounds_succ]
        go_wp2
        rw [rounds_succ]
        go_wp2
        rw [rounds_succ]
        go_wp2
        go_ret
        exact ⟨rfl, rfl⟩
      | false =>
        cases h3 : (s.toList == a3.toList) with
        | true =>
          simp only [if_true, Bool.false_eq_true, if_false]
          go_enter Try.func92, Try.ntmps92
          go_wp2_with fail
          refine wp_loop_rounds 5 ?_
          rw [rounds_succ]
          go_wp2
          rw [rounds_succ]
          go_wp2
          rw [rounds_succ]
          go_wp2
          rw [rounds_succ]
          go_wp2
          go_ret
          exact ⟨rfl, rfl⟩
        | false =>
          simp only [Bool.false_eq_true, if_false]
          go_enter Try.func92, Try.ntmps92
          go_wp2_with fail
          refine wp_loop_rounds 5 ?_
          rw [rounds_succ]
          go_wp2
          rw [rounds_succ]
          go_wp2
          rw [rounds_succ]
          go_wp2
          rw [rounds_succ]
          go_wp2
          rw [rounds_succ]
          go_wp2
          go_ret
          exact ⟨rfl, rfl⟩
theorem idx4_ge (b0 b1 b2 b3 : Bool) : decide (0 ≤ idx4 b0 b1 b2 b3) = (b0 || b1 || b2 || b3) := by cases b0 <;> cases b1 <;> cases b2 <;> cases b3 <;> rfl
theorem str_eq (s c : ByteArray) : (s.toList == c.toList) = (s.data.toList == c.data.toList) := by rw [ByteArray.toList_eq, ByteArray.toList_eq]
set_option maxHeartbeats 4000000 in
set_option maxRecDepth 100000 in
theorem contains4 (g : Nat) (s a0 a1 a2 a3 : ByteArray) (w : World) (c0 : w.cell? ⟨g, 0, none⟩ = some (.string a0)) (c1 : w.cell? ⟨g, 1, none⟩ = some (.string a1)) (c2 : w.cell? ⟨g, 2, none⟩ = some (.string a2)) (c3 : w.cell? ⟨g, 3, none⟩ = some (.string a3)) :
    Calls Try.prog 91 #[.slice (some ⟨g, 0, none⟩) 4 4, .string s] w fun e w' => e = .returned (.bool ((s.toList == a0.toList) || (s.toList == a1.toList) || (s.toList == a2.toList) || (s.toList == a3.toList))) ∧ w' = w := by
  have H := index4 g s a0 a1 a2 a3 w c0 c1 c2 c3
  have HD := idx4_ge (s.toList == a0.toList) (s.toList == a1.toList) (s.toList == a2.toList) (s.toList == a3.toList)
  rw [← HD]
  generalize idx4 (s.toList == a0.toList) (s.toList == a1.toList) (s.toList == a2.toList) (s.toList == a3.toList) = k at *
  clear HD c0 c1 c2 c3
  go_enter Try.func91, Try.ntmps91
  go_wp2_with fail
  refine H.mono ?_
  rintro e w1 ⟨rfl, rfl⟩
  go_wp2
  go_ret
  exact ⟨rfl, rfl⟩
set_option maxHeartbeats 4000000 in
set_option maxRecDepth 100000 in
theorem folds_any (s : ByteArray) (w : World) : Calls Try.prog 90 #[.string s] w fun e w' => e = .returned (.bool (folds s.data.toList)) ∧ Gr w w' := by
  have H := fun g w c0 c1 c2 c3 => contains4 g s ⟨#[99, 111, 117, 110, 116]⟩ ⟨#[115, 117, 109]⟩ ⟨#[109, 105, 110]⟩ ⟨#[109, 97, 120]⟩ w c0 c1 c2 c3
  have HF : (s.toList == (⟨#[99, 111, 117, 110, 116]⟩ : ByteArray).toList || s.toList == (⟨#[115, 117, 109]⟩ : ByteArray).toList || s.toList == (⟨#[109, 105, 110]⟩ : ByteArray).toList || s.toList == (⟨#[109, 97, 120]⟩ : ByteArray).toList) = folds s.data.toList := by unfold folds; rw [str_eq, str_eq, str_eq, str_eq]
  rw [HF] at H
  generalize folds s.data.toList = f at *
  clear HF
  have FI : Hid (∀ o, Gr w (w.alloc o)) := hid (fun o => (Gr.refl w).alloc o)
  go_enter Try.func90, Try.ntmps90
  go_wp2_with fail
  refine (H w.heap.size _ (by rw [Rg.blk_cells (alloc_at _ _)]; rfl) (by rw [Rg.blk_cells (alloc_at _ _)]; rfl) (by rw [Rg.blk_cells (alloc_at _ _)]; rfl) (by rw [Rg.blk_cells (alloc_at _ _)]; rfl)).mono ?_
  rintro e w1 ⟨rfl, rfl⟩
  go_wp2
  go_ret
  exact ⟨rfl, FI.out _⟩
set_option maxHeartbeats 4000000 in
set_option maxRecDepth 100000 in
theorem built_any (s : ByteArray) (w : World) : Calls Try.prog 88 #[.string s] w fun e w' => e = .returned (.bool (built s.data.toList)) ∧ Gr w w' := by
  have H := fun w => folds_any s w
  have HB : Hid (built s.data.toList = (folds s.data.toList || s.toList == [108, 101, 110, 103, 116, 104] || s.toList == [99, 111, 97, 108, 101, 115, 99, 101])) := hid (by unfold built; rw [ByteArray.toList_eq])
  rw [HB.out]
  clear HB
  generalize folds s.data.toList = f at *
  generalize hl : (s.toList == [108, 101, 110, 103, 116, 104]) = l at *
  generalize hc : (s.toList == [99, 111, 97, 108, 101, 115, 99, 101]) = c at *
  cases f with
  | true =>
    go_enter Try.func88, Try.ntmps88
    go_wp2_with fail
    refine (H _).mono ?_
    rintro e w1 ⟨rfl, hg⟩
    go_wp2
    first
    | exact ⟨rfl, hg⟩
    | (go_ret; exact ⟨rfl, hg⟩)
  | false =>
    cases l with
    | true =>
      go_enter Try.func88, Try.ntmps88
      go_wp2_with fail
      refine (H _).mono ?_
      rintro e w1 ⟨rfl, hg⟩
      go_wp2
      first
      | exact ⟨rfl, hg⟩
      | (go_ret; exact ⟨rfl, hg⟩)
    | false =>
      go_enter Try.func88, Try.ntmps88
      go_wp2_with fail
      refine (H _).mono ?_
      rintro e w1 ⟨rfl, hg⟩
      go_wp2
      first
      | exact ⟨rfl, hg⟩
      | (go_ret; exact ⟨rfl, hg⟩)
end Go.Proofs.Ytaogpifcfmjcbaa
end
section
namespace Go.Proofs.Ytaogpifcfmjcbaa
open Go.RowKit
set_option linter.unusedSimpArgs false
set_option linter.unusedVariables false
attribute [local go_sem] Rg.leads_value Rg.leads_skip Rg.leads_enter Rg.brings_value Rg.brings_skip Rg.brings_enter Rg.bringsG_value Rg.bringsG_enter Rg.once_normal Rg.once_exit Rg.once_ret Rg.once_panic Rg.once_goto
set_option maxHeartbeats 4000000 in
set_option maxRecDepth 100000 in
theorem up_dfr_raw (p : Nat) (l : List Lx.Tok) (d e a : Int) (w : World) (u : FrameMode) (h : PR p w l d e a) : CallsD Try.prog 70 #[.pointer (some ⟨p, 0, none⟩)] u w fun x u' w' => u' = u ∧ (x = .returned (.tuple #[]) ∧ w' = w.setCell ⟨p, 1, none⟩ (.int .i64 (wrap64 (d - 1)))) := by
  obtain ⟨oa, cap, hh, hc, hat, hne⟩ := h.ex
  have r1 := Rg.blk_cells hh 1
  have f1 := Rg.blk_free hh 1
  simp only [List.getElem?_toArray, List.getElem?_cons_zero, List.getElem?_cons_succ] at r1
  clear h hat hne hh
  go_enter_d Try.func70, Try.ntmps70
  go_wp2
  go_end0
  exact ⟨rfl, rfl⟩
theorem up_dfr (p : Nat) (s : Ps) (w : World) (u : FrameMode) (h : PS p w s) (hd : ∀ l d, s = .ok l d → 1 ≤ d) : CallsD Try.prog 70 #[.pointer (some ⟨p, 0, none⟩)] u w fun x u' w' => u' = u ∧ x = .returned (.tuple #[]) ∧ PS p w' s.up ∧ Go1 p w w' := by
  match s, h with
  | .bad e a, h =>
    obtain ⟨he, l, d, h⟩ := h
    exact (up_dfr_raw p l d e a w u h).mono fun x u' w' ⟨h0, h1, h2⟩ => ⟨h0, h1, by rw [h2]; exact ⟨he, l, _, h.deep _⟩, by rw [h2]; exact .set _ _ _ _⟩
  | .ok l d, h =>
    have hd := hd l d rfl
    refine (up_dfr_raw p l d 0 0 w u h.2).mono fun x u' w' ⟨h0, h1, h2⟩ => ⟨h0, h1, ?_, by rw [h2]; exact .set _ _ _ _⟩
    rw [h2, show wrap64 ((d : Int) - 1) = ((d - 1 : Nat) : Int) by have := h.1; unfold wrap64; omega]
    exact ⟨by have := h.1; omega, h.2.deep _⟩
set_option maxHeartbeats 8000000 in
set_option maxRecDepth 100000 in
theorem call_full (E : Pa Ex) (p : Nat) (nm : List UInt8) (s : Ps) (w : World) (hS : PS p w s) (hgood : s.good = true) (hD : s.down.good = false) : Calls Try.prog 89 #[.pointer (some ⟨p, 0, none⟩), .string (txt nm)] w (Px p w (callS E nm s)) := by
  have hpw := hS.lt
  have hG := fun o => (Gr.refl w).alloc o
  have hS0 := fun o => hS.keep (hG o)
  have eR : callS E nm s = (noEx, s.down) := by
    unfold callS; rw [hD]; rfl
  rw [eR]
  clear eR
  have hfo := fun w => folds_any (txt nm) w
  rw [txt_list] at hfo
  go_enter_defers Try.func89, Try.ntmps89
  go_wp2_with fail
  refine (hfo _).mono ?_
  rintro e w1 ⟨rfl, hg1⟩
  have hps1 := (hS0 _).keep hg1
  go_wp2_with fail
  refine (down_any p s _ hps1 hgood).mono ?_
  rintro e w2 ⟨rfl, hps2, hg2⟩
  rw [hD]
  have z1 := hg1.size
  have z2 := hg2.size
  simp only [World.size_alloc] at z1
  have h02 : w2.heap[w.heap.size]? = some (.cells zeroX 32 (0, 0)) := by
    rw [hg2.get (by omega) (by omega), hg1.block _ (by simp)]; exact alloc_at _ _
  have hgo2 : Go1 p w w2 := ((Go1.of (hG _)).trans (.of hg1)).trans hg2
  clear hg1 hg2 hps1 hS0 hG hS
  have FI : Hid (∀ W5, Go1 w.heap.size w2 W5 → Rx p w (noEx, s.down) (XR.val ⟨{ op := 0 }, none, 0, 0⟩) W5) := hid (fun W5 h5 => giveG hpw rfl (formZ (S := fun b => w.heap.size ≤ b ∧ b ≠ w.heap.size)) hps2 hgo2 (fun _ => rfl) h5)
  have H05 := hid h02
  clear hps2 hgo2 h02
  go_wp2_with (guard_target =~ wpList _ _ _ (Oper.mk _ (Op.store 32 _ _) _ _ _ _ :: _) _ _; refine st_row (ty := 32) rfl rfl w.heap.size _ rfl rfl 32 _ (H05.out) (by kernel_rfl) rfl (by kernel_rfl) ?_; intro W5 hW5 gW5 zW5)
  (try simp only [Exit.inBlock, Exit.then])
  have hT := Rg.blk_cells hW5
  exact ⟨XR.val ⟨{ op := 0 }, none, 0, 0⟩, by simp [results, Try.results89, go_sem, XR.val, nul, hT]; try rfl, _, rfl, FI.out W5 gW5⟩
set_option maxHeartbeats 8000000 in
set_option maxRecDepth 100000 in
theorem call_star (E : Pa Ex) (p : Nat) (nm : List UInt8) (s : Ps) (w : World) (hS : PS p w s) (hgood : s.good = true) (hK : s.headK = 1) (hD : s.down.good = true) (hc : (nm == (⟨#[99, 111, 117, 110, 116]⟩ : ByteArray).data.toList) = true) (hst : (s.down.step.need 4 ⟨#[40]⟩).is 4 ⟨#[42]⟩ = true) : Calls Try.prog 89 #[.pointer (some ⟨p, 0, none⟩), .string (txt nm)] w (Px p w (callS E nm s)) := by
  have hpw := hS.lt
  have hG := fun o => (Gr.refl w).alloc o
  have hS0 := fun o => hS.keep (hG o)
  have eR : callS E nm s = (.mk { op := 4, name := txt nm, st := true } [], ((s.down.step.need 4 ⟨#[40]⟩).step.need 4 ⟨#[41]⟩).up) := by
    unfold callS; simp only [hD, hc, hst, if_true, Bool.and_self]
  rw [eR]
  clear eR
  have hup : Hid (∀ l d, (s.down.step.need 4 ⟨#[40]⟩).step.need 4 ⟨#[41]⟩ = .ok l d → 1 ≤ d) := hid (down_deep hD (As.trans (as_need _ _ _) (As.trans (as_step _) (As.trans (as_need _ _ _) (as_step s.down))))).1
  have HS1 := hid hst
  obtain ⟨s1, hs1⟩ : ∃ s1, s.down.step.need 4 ⟨#[40]⟩ = s1 := ⟨_, rfl⟩
  rw [hs1] at HS1 hup
  rw [hs1]
  have hfo := fun w => folds_any (txt nm) w
  rw [txt_list] at hfo
  go_enter_defers Try.func89, Try.ntmps89
  go_wp2_with fail
  refine (hfo _).mono ?_
  rintro e w1 ⟨rfl, hg1⟩
  have hps1 := (hS0 _).keep hg1
  go_wp2_with fail
  refine (down_any p s _ hps1 hgood).mono ?_
  rintro e w2 ⟨rfl, hps2, hg2⟩
  rw [hD]
  have z1 := hg1.size
  have z2 := hg2.size
  simp only [World.size_alloc] at z1
  have h02 : w2.heap[w.heap.size]? = some (.cells zeroX 32 (0, 0)) := by
    rw [hg2.get (by omega) (by omega), hg1.block _ (by simp)]; exact alloc_at _ _
  have hgo2 : Go1 p w w2 := ((Go1.of (hG _)).trans (.of hg1)).trans hg2
  clear hg1 hg2 hps1 hS0 hG hS
  obtain ⟨d1, d2, d3, d4⟩ := down_good hD
  have hk5 : s.down.headK ≠ 5 := by rw [d3]; omega
  go_wp2_with fail
  refine (step_any p s.down _ hps2 hk5 hD).mono ?_
  rintro e w3 ⟨rfl, hps3, hg3⟩
  go_wp2_with fail
  refine (must_any p ⟨#[40]⟩ _ _ hps3).mono ?_
  rintro e w4 ⟨rfl, hps4, hg4⟩
  have hgo4 := (hgo2.trans hg3).trans hg4
  have h04 : w4.heap[w.heap.size]? = some (.cells zeroX 32 (0, 0)) := by
    rw [hg4.get (by have := hg3.size; omega) (by omega), hg3.get (by omega) (by omega)]; exact h02
  have z4 := (hg3.trans hg4).size
  clear hps2 hps3 hg3 hg4 hgo2 h02
  rw [hs1] at hps4
  have tc : ((txt nm).toList == [99, 111, 117, 110, 116]) = true := by rw [ByteArray.toList_eq, txt_list]; exact hc
  generalize txt nm = tn at *
  clear hst hc
  go_wp2_with fail
  refine (sign_any' p ⟨#[42]⟩ s1 _ hps4).mono ?_
  rintro e w5 ⟨rfl, hps5, hg5⟩
  rw [HS1.out]
  rw [show (s1.may 4 ⟨#[42]⟩).2 = s1.step by simp [Ps.may, HS1.out]] at hps5
  go_wp2_with fail
  refine (must_any p ⟨#[41]⟩ _ _ hps5).mono ?_
  rintro e w6 ⟨rfl, hps6, hg6⟩
  have HGO := hid ((hgo4.trans hg5).trans hg6)
  have H06 : Hid (w6.heap[w.heap.size]? = some (.cells zeroX 32 (0, 0))) := hid (by
    rw [hg6.get (by have := hg5.size; omega) (by omega), hg5.get (by omega) (by omega)]; exact h04)
  have HZ : Hid (w.heap.size < w6.heap.size) := hid (Array.getElem?_eq_some_iff.1 H06.out).1
  have HPS := hid hps6
  clear hps4 hps5 hps6 hg5 hg6 hgo4 h04
  have FI : Hid (∀ W5 w9, Go1 w.heap.size w6 W5 → Go1 p W5 w9 → PS p w9 (Ps.up (s1.step.need 4 ⟨#[41]⟩)) → Rx p w (.mk { op := 4, name := tn, st := true } [], (s1.step.need 4 ⟨#[41]⟩).up) (XR.val ⟨{ op := 4, name := tn, st := true }, none, 0, 0⟩) w9) := hid (fun W5 w9 h5 h9 hp9 => by
    refine ⟨⟨{ op := 4, name := tn, st := true }, none, 0, 0⟩, .mk { op := 4, name := tn, st := true } [], rfl, ?_, hp9, (HGO.out.own h5 (by omega)).trans h9, fun _ => rfl⟩
    refine ((formZ (S := fun b => w.heap.size ≤ b ∧ b ≠ w.heap.size)).of h9.size (fun b hb hl => h9.get hl (by have := hb.1; omega))).mono (fun b _ hb => hb.1))
  have HPD : Hid (∀ W5, Go1 w.heap.size w6 W5 → PS p W5 (s1.step.need 4 ⟨#[41]⟩)) := hid (fun W5 h5 => HPS.out.go h5 (by omega))
  go_wp2_with (guard_target =~ wpList _ _ _ (Oper.mk _ (Op.store 32 _ _) _ _ _ _ :: _) _ _; refine st_row (ty := 32) rfl rfl w.heap.size _ rfl rfl 32 _ (H06.out) (by kernel_rfl) rfl (by kernel_rfl) ?_; intro W5 hW5 gW5 zW5)
  (try simp only [Exit.inBlock, Exit.then])
  have hp5 : PS p W5 (s1.step.need 4 ⟨#[41]⟩) := HPD.out W5 gW5
  refine leaves_cons (f := 70) (args := #[.pointer (some ⟨p, 0, none⟩)]) (by simp) (by simp [go_sem]) ?_
  refine (up_dfr p (s1.step.need 4 ⟨#[41]⟩) W5 .returning hp5 hup.out).mono ?_
  rintro e u' w9 ⟨rfl, rfl, hps9, hg9⟩
  have hT : ∀ i, w9.cell? ⟨w.heap.size, i, none⟩ = _ := fun i => (hg9.cell (by rw [zW5]; exact HZ.out) (by omega)).trans (Rg.blk_cells hW5 i)
  exact ⟨XR.val ⟨{ op := 4, name := tn, st := true }, none, 0, 0⟩, by simp [results, Try.results89, go_sem, XR.val, nul, hT]; try rfl, _, rfl, FI.out W5 w9 gW5 hg9 hps9⟩
set_option maxHeartbeats 8000000 in
set_option maxRecDepth 100000 in
theorem call_agg_count (E : Pa Ex) (p : Nat) (nm : List UInt8) (s : Ps) (w : World) (hS : PS p w s) (hgood : s.good = true) (hK : s.headK = 1) (hD : s.down.good = true) (hf : folds nm = true) (hc : (nm == (⟨#[99, 111, 117, 110, 116]⟩ : ByteArray).data.toList) = true) (hst : (s.down.step.need 4 ⟨#[40]⟩).is 4 ⟨#[42]⟩ = false) (hdp : DP E) (hq : ∀ w', PS p w' (s.down.step.need 4 ⟨#[40]⟩) → Calls Try.prog 18 #[.pointer (some ⟨p, 0, none⟩)] w' (Px p w' (E (s.down.step.need 4 ⟨#[40]⟩)))) : Calls Try.prog 89 #[.pointer (some ⟨p, 0, none⟩), .string (txt nm)] w (Px p w (callS E nm s)) := by
  have hpw := hS.lt
  have hG := fun o => (Gr.refl w).alloc o
  have hS0 := fun o => hS.keep (hG o)
  have eR : callS E nm s = (.mk { op := 4, name := txt nm } [(E (s.down.step.need 4 ⟨#[40]⟩)).1], ((E (s.down.step.need 4 ⟨#[40]⟩)).2.need 4 ⟨#[41]⟩).up) := by
    unfold callS; simp only [hD, hc, hst, hf, if_true, if_false, Bool.and_false, Bool.false_and, Bool.false_eq_true]
  rw [eR]
  clear eR
  have hup : Hid (∀ l d, (E (s.down.step.need 4 ⟨#[40]⟩)).2.need 4 ⟨#[41]⟩ = .ok l d → 1 ≤ d) := hid (down_deep hD (As.trans (as_need _ _ _) (As.trans (hdp _) (As.trans (as_need _ _ _) (as_step s.down))))).1
  have HS1 := hid hst
  obtain ⟨s1, hs1⟩ : ∃ s1, s.down.step.need 4 ⟨#[40]⟩ = s1 := ⟨_, rfl⟩
  rw [hs1] at HS1 hup hq
  rw [hs1]
  generalize hQ : E s1 = Q at *
  have hfo := fun w => folds_any (txt nm) w
  rw [txt_list, hf] at hfo
  go_enter_defers Try.func89, Try.ntmps89
  go_wp2_with fail
  refine (hfo _).mono ?_
  rintro e w1 ⟨rfl, hg1⟩
  have hps1 := (hS0 _).keep hg1
  go_wp2_with fail
  refine (down_any p s _ hps1 hgood).mono ?_
  rintro e w2 ⟨rfl, hps2, hg2⟩
  rw [hD]
  have z1 := hg1.size
  have z2 := hg2.size
  simp only [World.size_alloc] at z1
  have h02 : w2.heap[w.heap.size]? = some (.cells zeroX 32 (0, 0)) := by
    rw [hg2.get (by omega) (by omega), hg1.block _ (by simp)]; exact alloc_at _ _
  have hgo2 : Go1 p w w2 := ((Go1.of (hG _)).trans (.of hg1)).trans hg2
  clear hg1 hg2 hps1 hS0 hG hS
  obtain ⟨d1, d2, d3, d4⟩ := down_good hD
  have hk5 : s.down.headK ≠ 5 := by rw [d3]; omega
  go_wp2_with fail
  refine (step_any p s.down _ hps2 hk5 hD).mono ?_
  rintro e w3 ⟨rfl, hps3, hg3⟩
  go_wp2_with fail
  refine (must_any p ⟨#[40]⟩ _ _ hps3).mono ?_
  rintro e w4 ⟨rfl, hps4, hg4⟩
  have hgo4 := (hgo2.trans hg3).trans hg4
  have h04 : w4.heap[w.heap.size]? = some (.cells zeroX 32 (0, 0)) := by
    rw [hg4.get (by have := hg3.size; omega) (by omega), hg3.get (by omega) (by omega)]; exact h02
  have z4 := (hg3.trans hg4).size
  clear hps2 hps3 hg3 hg4 hgo2 h02
  rw [hs1] at hps4
  have tc : ((txt nm).toList == [99, 111, 117, 110, 116]) = true := by rw [ByteArray.toList_eq, txt_list]; exact hc
  generalize txt nm = tn at *
  clear hc hst
  go_wp2_with fail
  refine (sign_any' p ⟨#[42]⟩ s1 _ hps4).mono ?_
  rintro e w5 ⟨rfl, hps5, hg5⟩
  rw [HS1.out]
  rw [show (s1.may 4 ⟨#[42]⟩).2 = s1 by simp [Ps.may, HS1.out]] at hps5
  have h05 : w5.heap[w.heap.size]? = some (.cells zeroX 32 (0, 0)) := by
    rw [hg5.get (by omega) (by omega)]; exact h04
  have hgo5 := hgo4.trans hg5
  have z5 := hgo5.size
  have hl5 : w.heap.size < w5.heap.size := (Array.getElem?_eq_some_iff.1 h05).1
  go_wp2_with fail
  refine (hq _ hps5).mono ?_
  rintro e w6 ⟨u, rfl, r, x, rfl, hx, hps6, hg6, hgd⟩
  unfold XR.val
  have hA6 := fun o => (Gr.refl w6).alloc o
  have hps7 := fun o => hps6.keep (hA6 o)
  have z6 := hg6.size
  go_wp2_with fail
  refine (must_any p ⟨#[41]⟩ _ _ (hps7 _)).mono ?_
  rintro e w8 ⟨rfl, hps8, hg8⟩
  have z8 := hg8.size
  simp only [World.size_alloc] at z8
  have hp6 := hps6.lt
  have hr8 : w8.heap[w6.heap.size]? = some (.cells r.cells 32 (0, 0)) := by
    rw [hg8.get (by simp) (by omega)]; exact alloc_at _ _
  have h08 : w8.heap[w.heap.size]? = some (.cells zeroX 32 (0, 0)) := by
    rw [hg8.get (by simp; omega) (by omega), (hA6 _).block _ (by omega), hg6.get hl5 (by omega)]; exact h05
  have hx8 : Ex.At (fun b => w.heap.size ≤ b ∧ b ≠ w.heap.size) w8 x r := by
    refine ((hx.of (by simp) (fun b hb hl => (hA6 (.cells r.cells 32)).block b hl)).of hg8.size (fun b hb hl => hg8.get hl (by have : w5.heap.size ≤ b := hb; omega))).mono (fun b _ hb => by have : w5.heap.size ≤ b := hb; exact ⟨by omega, by omega⟩)
  have hgo8 : Go1 p w w8 := ((hgo5.trans hg6).block2 (hA6 _)).trans hg8
  have cE := Rg.blk_cells hr8
  simp only [XR.cells] at cE
  have hl8 : w.heap.size < w8.heap.size := (Array.getElem?_eq_some_iff.1 h08).1
  have hA8 := fun o => (Gr.refl w8).alloc o
  have H06 : Hid (∀ o, (w8.alloc o).heap[w.heap.size]? = some (.cells zeroX 32 (0, 0))) := hid (fun o => by rw [(hA8 o).block _ hl8]; exact h08)
  have HZ : Hid (w.heap.size < (w8.alloc (.cells r.cells 32)).heap.size) := hid (by simp; omega)
  have HPS := hid (hps8.keep (hA8 (.cells r.cells 32)))
  have HGO := hid (hgo8.block2 (hA8 (.cells r.cells 32)))
  have HX8 := hid ((hx8.of (hA8 (.cells r.cells 32)).size (fun b hb hl => (hA8 _).block b hl)))
  have HGD : Hid (((Q.2.need 4 ⟨#[41]⟩).up).good = true → x = Q.1) := hid (fun h => hgd (need_good (up_good h)))
  clear hps4 hps5 hps6 hps7 hps8 hg6 hg8 hgo4 hgo5 hgo8 h04 h05 h08 hx hx8 hr8 hgd hq hA6 hA8 hg5
  have FI : Hid (∀ W5 w9, Go1 w.heap.size (w8.alloc (.cells r.cells 32)) W5 → Go1 p W5 w9 → PS p w9 (Ps.up (Q.2.need 4 ⟨#[41]⟩)) → Rx p w (.mk { op := 4, name := tn } [Q.1], (Q.2.need 4 ⟨#[41]⟩).up) (XR.val ⟨{ op := 4, name := tn }, some ⟨w8.heap.size, 0, none⟩, 1, 1⟩) w9) := hid (fun W5 w9 h5 h9 hp9 => by
    refine ⟨⟨{ op := 4, name := tn }, some ⟨w8.heap.size, 0, none⟩, 1, 1⟩, .mk { op := 4, name := tn } [x], rfl, ?_, hp9, (HGO.out.own h5 (by omega)).trans h9, fun h => by rw [HGD.out h]⟩
    refine (((formN (S := fun b => w.heap.size ≤ b ∧ b ≠ w.heap.size) (rs := [r]) ⟨by omega, by omega⟩ (alloc_at w8 (.cells r.cells 32)) (by simp [cellsF, xF]) (Exs.At.cons HX8.out Exs.At.nil) (fit_le 1 (by decide))).of h5.size (fun b hb hl => h5.get hl hb.2)).of h9.size (fun b hb hl => h9.get hl (by have := hb.1; omega))).mono (fun b _ hb => hb.1))
  have HPD : Hid (∀ W5, Go1 w.heap.size (w8.alloc (.cells r.cells 32)) W5 → PS p W5 (Q.2.need 4 ⟨#[41]⟩)) := hid (fun W5 h5 => HPS.out.go h5 (by omega))
  go_wp2_with (guard_target =~ wpList _ _ _ (Oper.mk _ (Op.store 32 _ _) _ _ _ _ :: _) _ _; refine st_row (ty := 32) rfl rfl w.heap.size _ rfl rfl 32 _ (H06.out _) (by kernel_rfl) rfl (by kernel_rfl) ?_; intro W5 hW5 gW5 zW5)
  (try simp only [Exit.inBlock, Exit.then])
  have hp5 : PS p W5 (Q.2.need 4 ⟨#[41]⟩) := HPD.out W5 gW5
  refine leaves_cons (f := 70) (args := #[.pointer (some ⟨p, 0, none⟩)]) (by simp) (by simp [go_sem]) ?_
  refine (up_dfr p (Q.2.need 4 ⟨#[41]⟩) W5 .returning hp5 hup.out).mono ?_
  rintro e u' w9 ⟨rfl, rfl, hps9, hg9⟩
  have hT : ∀ i, w9.cell? ⟨w.heap.size, i, none⟩ = _ := fun i => (hg9.cell (by rw [zW5]; exact HZ.out) (by omega)).trans (Rg.blk_cells hW5 i)
  exact ⟨XR.val ⟨{ op := 4, name := tn }, some ⟨w8.heap.size, 0, none⟩, 1, 1⟩, by simp [results, Try.results89, go_sem, XR.val, nul, hT]; try rfl, _, rfl, FI.out W5 w9 gW5 hg9 hps9⟩
set_option maxHeartbeats 8000000 in
set_option maxRecDepth 100000 in
theorem call_agg_other (E : Pa Ex) (p : Nat) (nm : List UInt8) (s : Ps) (w : World) (hS : PS p w s) (hgood : s.good = true) (hK : s.headK = 1) (hD : s.down.good = true) (hf : folds nm = true) (hc : (nm == (⟨#[99, 111, 117, 110, 116]⟩ : ByteArray).data.toList) = false) (hdp : DP E) (hq : ∀ w', PS p w' (s.down.step.need 4 ⟨#[40]⟩) → Calls Try.prog 18 #[.pointer (some ⟨p, 0, none⟩)] w' (Px p w' (E (s.down.step.need 4 ⟨#[40]⟩)))) : Calls Try.prog 89 #[.pointer (some ⟨p, 0, none⟩), .string (txt nm)] w (Px p w (callS E nm s)) := by
  have hpw := hS.lt
  have hG := fun o => (Gr.refl w).alloc o
  have hS0 := fun o => hS.keep (hG o)
  have eR : callS E nm s = (.mk { op := 4, name := txt nm } [(E (s.down.step.need 4 ⟨#[40]⟩)).1], ((E (s.down.step.need 4 ⟨#[40]⟩)).2.need 4 ⟨#[41]⟩).up) := by
    unfold callS; simp only [hD, hc, hf, if_true, if_false, Bool.and_false, Bool.false_and, Bool.false_eq_true]
  rw [eR]
  clear eR
  have hup : Hid (∀ l d, (E (s.down.step.need 4 ⟨#[40]⟩)).2.need 4 ⟨#[41]⟩ = .ok l d → 1 ≤ d) := hid (down_deep hD (As.trans (as_need _ _ _) (As.trans (hdp _) (As.trans (as_need _ _ _) (as_step s.down))))).1
  obtain ⟨s1, hs1⟩ : ∃ s1, s.down.step.need 4 ⟨#[40]⟩ = s1 := ⟨_, rfl⟩
  rw [hs1] at hup hq
  rw [hs1]
  generalize hQ : E s1 = Q at *
  have hfo := fun w => folds_any (txt nm) w
  rw [txt_list, hf] at hfo
  go_enter_defers Try.func89, Try.ntmps89
  go_wp2_with fail
  refine (hfo _).mono ?_
  rintro e w1 ⟨rfl, hg1⟩
  have hps1 := (hS0 _).keep hg1
  go_wp2_with fail
  refine (down_any p s _ hps1 hgood).mono ?_
  rintro e w2 ⟨rfl, hps2, hg2⟩
  rw [hD]
  have z1 := hg1.size
  have z2 := hg2.size
  simp only [World.size_alloc] at z1
  have h02 : w2.heap[w.heap.size]? = some (.cells zeroX 32 (0, 0)) := by
    rw [hg2.get (by omega) (by omega), hg1.block _ (by simp)]; exact alloc_at _ _
  have hgo2 : Go1 p w w2 := ((Go1.of (hG _)).trans (.of hg1)).trans hg2
  clear hg1 hg2 hps1 hS0 hG hS
  obtain ⟨d1, d2, d3, d4⟩ := down_good hD
  have hk5 : s.down.headK ≠ 5 := by rw [d3]; omega
  go_wp2_with fail
  refine (step_any p s.down _ hps2 hk5 hD).mono ?_
  rintro e w3 ⟨rfl, hps3, hg3⟩
  go_wp2_with fail
  refine (must_any p ⟨#[40]⟩ _ _ hps3).mono ?_
  rintro e w4 ⟨rfl, hps4, hg4⟩
  have hgo4 := (hgo2.trans hg3).trans hg4
  have h04 : w4.heap[w.heap.size]? = some (.cells zeroX 32 (0, 0)) := by
    rw [hg4.get (by have := hg3.size; omega) (by omega), hg3.get (by omega) (by omega)]; exact h02
  have z4 := (hg3.trans hg4).size
  clear hps2 hps3 hg3 hg4 hgo2 h02
  rw [hs1] at hps4
  have tc : ((txt nm).toList == [99, 111, 117, 110, 116]) = false := by rw [ByteArray.toList_eq, txt_list]; exact hc
  generalize txt nm = tn at *
  clear hc
  have hps5 := hps4
  have h05 := h04
  have hgo5 := hgo4
  have z5 := hgo5.size
  have hl5 : w.heap.size < w4.heap.size := (Array.getElem?_eq_some_iff.1 h05).1
  go_wp2_with fail
  refine (hq _ hps5).mono ?_
  rintro e w6 ⟨u, rfl, r, x, rfl, hx, hps6, hg6, hgd⟩
  unfold XR.val
  have hA6 := fun o => (Gr.refl w6).alloc o
  have hps7 := fun o => hps6.keep (hA6 o)
  have z6 := hg6.size
  go_wp2_with fail
  refine (must_any p ⟨#[41]⟩ _ _ (hps7 _)).mono ?_
  rintro e w8 ⟨rfl, hps8, hg8⟩
  have z8 := hg8.size
  simp only [World.size_alloc] at z8
  have hp6 := hps6.lt
  have hr8 : w8.heap[w6.heap.size]? = some (.cells r.cells 32 (0, 0)) := by
    rw [hg8.get (by simp) (by omega)]; exact alloc_at _ _
  have h08 : w8.heap[w.heap.size]? = some (.cells zeroX 32 (0, 0)) := by
    rw [hg8.get (by simp; omega) (by omega), (hA6 _).block _ (by omega), hg6.get hl5 (by omega)]; exact h05
  have hx8 : Ex.At (fun b => w.heap.size ≤ b ∧ b ≠ w.heap.size) w8 x r := by
    refine ((hx.of (by simp) (fun b hb hl => (hA6 (.cells r.cells 32)).block b hl)).of hg8.size (fun b hb hl => hg8.get hl (by have : w4.heap.size ≤ b := hb; omega))).mono (fun b _ hb => by have : w4.heap.size ≤ b := hb; exact ⟨by omega, by omega⟩)
  have hgo8 : Go1 p w w8 := ((hgo5.trans hg6).block2 (hA6 _)).trans hg8
  have cE := Rg.blk_cells hr8
  simp only [XR.cells] at cE
  have hl8 : w.heap.size < w8.heap.size := (Array.getElem?_eq_some_iff.1 h08).1
  have hA8 := fun o => (Gr.refl w8).alloc o
  have H06 : Hid (∀ o, (w8.alloc o).heap[w.heap.size]? = some (.cells zeroX 32 (0, 0))) := hid (fun o => by rw [(hA8 o).block _ hl8]; exact h08)
  have HZ : Hid (w.heap.size < (w8.alloc (.cells r.cells 32)).heap.size) := hid (by simp; omega)
  have HPS := hid (hps8.keep (hA8 (.cells r.cells 32)))
  have HGO := hid (hgo8.block2 (hA8 (.cells r.cells 32)))
  have HX8 := hid ((hx8.of (hA8 (.cells r.cells 32)).size (fun b hb hl => (hA8 _).block b hl)))
  have HGD : Hid (((Q.2.need 4 ⟨#[41]⟩).up).good = true → x = Q.1) := hid (fun h => hgd (need_good (up_good h)))
  clear hps4 hps5 hps6 hps7 hps8 hg6 hg8 hgo4 hgo5 hgo8 h04 h05 h08 hx hx8 hr8 hgd hq hA6 hA8
  have FI : Hid (∀ W5 w9, Go1 w.heap.size (w8.alloc (.cells r.cells 32)) W5 → Go1 p W5 w9 → PS p w9 (Ps.up (Q.2.need 4 ⟨#[41]⟩)) → Rx p w (.mk { op := 4, name := tn } [Q.1], (Q.2.need 4 ⟨#[41]⟩).up) (XR.val ⟨{ op := 4, name := tn }, some ⟨w8.heap.size, 0, none⟩, 1, 1⟩) w9) := hid (fun W5 w9 h5 h9 hp9 => by
    refine ⟨⟨{ op := 4, name := tn }, some ⟨w8.heap.size, 0, none⟩, 1, 1⟩, .mk { op := 4, name := tn } [x], rfl, ?_, hp9, (HGO.out.own h5 (by omega)).trans h9, fun h => by rw [HGD.out h]⟩
    refine (((formN (S := fun b => w.heap.size ≤ b ∧ b ≠ w.heap.size) (rs := [r]) ⟨by omega, by omega⟩ (alloc_at w8 (.cells r.cells 32)) (by simp [cellsF, xF]) (Exs.At.cons HX8.out Exs.At.nil) (fit_le 1 (by decide))).of h5.size (fun b hb hl => h5.get hl hb.2)).of h9.size (fun b hb hl => h9.get hl (by have := hb.1; omega))).mono (fun b _ hb => hb.1))
  have HPD : Hid (∀ W5, Go1 w.heap.size (w8.alloc (.cells r.cells 32)) W5 → PS p W5 (Q.2.need 4 ⟨#[41]⟩)) := hid (fun W5 h5 => HPS.out.go h5 (by omega))
  go_wp2_with (guard_target =~ wpList _ _ _ (Oper.mk _ (Op.store 32 _ _) _ _ _ _ :: _) _ _; refine st_row (ty := 32) rfl rfl w.heap.size _ rfl rfl 32 _ (H06.out _) (by kernel_rfl) rfl (by kernel_rfl) ?_; intro W5 hW5 gW5 zW5)
  (try simp only [Exit.inBlock, Exit.then])
  have hp5 : PS p W5 (Q.2.need 4 ⟨#[41]⟩) := HPD.out W5 gW5
  refine leaves_cons (f := 70) (args := #[.pointer (some ⟨p, 0, none⟩)]) (by simp) (by simp [go_sem]) ?_
  refine (up_dfr p (Q.2.need 4 ⟨#[41]⟩) W5 .returning hp5 hup.out).mono ?_
  rintro e u' w9 ⟨rfl, rfl, hps9, hg9⟩
  have hT : ∀ i, w9.cell? ⟨w.heap.size, i, none⟩ = _ := fun i => (hg9.cell (by rw [zW5]; exact HZ.out) (by omega)).trans (Rg.blk_cells hW5 i)
  exact ⟨XR.val ⟨{ op := 4, name := tn }, some ⟨w8.heap.size, 0, none⟩, 1, 1⟩, by simp [results, Try.results89, go_sem, XR.val, nul, hT]; try rfl, _, rfl, FI.out W5 w9 gW5 hg9 hps9⟩
set_option maxHeartbeats 8000000 in
set_option maxRecDepth 100000 in
theorem call_call (E : Pa Ex) (p : Nat) (nm : List UInt8) (s : Ps) (w : World) (hS : PS p w s) (hgood : s.good = true) (hK : s.headK = 1) (hD : s.down.good = true) (hf : folds nm = false) (hc : (nm == (⟨#[99, 111, 117, 110, 116]⟩ : ByteArray).data.toList) = false) (hdp : DP E) (hq : ∀ w', PS p w' (s.down.step.need 4 ⟨#[40]⟩) → Calls Try.prog 56 #[.pointer (some ⟨p, 0, none⟩)] w' (Pxs p w' (sep E (s.down.step.need 4 ⟨#[40]⟩)))) : Calls Try.prog 89 #[.pointer (some ⟨p, 0, none⟩), .string (txt nm)] w (Px p w (callS E nm s)) := by
  have hpw := hS.lt
  have hG := fun o => (Gr.refl w).alloc o
  have hS0 := fun o => hS.keep (hG o)
  have eR : callS E nm s = (.mk { op := 5, name := txt nm } (sep E (s.down.step.need 4 ⟨#[40]⟩)).1, ((sep E (s.down.step.need 4 ⟨#[40]⟩)).2.need 4 ⟨#[41]⟩).up) := by
    unfold callS; simp only [hD, hc, hf, if_true, if_false, Bool.false_and, Bool.false_eq_true]
  rw [eR]
  clear eR
  have hup : Hid (∀ l d, (sep E (s.down.step.need 4 ⟨#[40]⟩)).2.need 4 ⟨#[41]⟩ = .ok l d → 1 ≤ d) := hid (down_deep hD (As.trans (as_need _ _ _) (As.trans (dp_sep hdp _) (As.trans (as_need _ _ _) (as_step s.down))))).1
  obtain ⟨s1, hs1⟩ : ∃ s1, s.down.step.need 4 ⟨#[40]⟩ = s1 := ⟨_, rfl⟩
  rw [hs1] at hup hq
  rw [hs1]
  generalize hQ : sep E s1 = Q at *
  have hfo := fun w => folds_any (txt nm) w
  rw [txt_list, hf] at hfo
  go_enter_defers Try.func89, Try.ntmps89
  go_wp2_with fail
  refine (hfo _).mono ?_
  rintro e w1 ⟨rfl, hg1⟩
  have hps1 := (hS0 _).keep hg1
  go_wp2_with fail
  refine (down_any p s _ hps1 hgood).mono ?_
  rintro e w2 ⟨rfl, hps2, hg2⟩
  rw [hD]
  have z1 := hg1.size
  have z2 := hg2.size
  simp only [World.size_alloc] at z1
  have h02 : w2.heap[w.heap.size]? = some (.cells zeroX 32 (0, 0)) := by
    rw [hg2.get (by omega) (by omega), hg1.block _ (by simp)]; exact alloc_at _ _
  have hgo2 : Go1 p w w2 := ((Go1.of (hG _)).trans (.of hg1)).trans hg2
  clear hg1 hg2 hps1 hS0 hG hS
  obtain ⟨d1, d2, d3, d4⟩ := down_good hD
  have hk5 : s.down.headK ≠ 5 := by rw [d3]; omega
  go_wp2_with fail
  refine (step_any p s.down _ hps2 hk5 hD).mono ?_
  rintro e w3 ⟨rfl, hps3, hg3⟩
  go_wp2_with fail
  refine (must_any p ⟨#[40]⟩ _ _ hps3).mono ?_
  rintro e w4 ⟨rfl, hps4, hg4⟩
  have hgo4 := (hgo2.trans hg3).trans hg4
  have h04 : w4.heap[w.heap.size]? = some (.cells zeroX 32 (0, 0)) := by
    rw [hg4.get (by have := hg3.size; omega) (by omega), hg3.get (by omega) (by omega)]; exact h02
  have z4 := (hg3.trans hg4).size
  clear hps2 hps3 hg3 hg4 hgo2 h02
  rw [hs1] at hps4
  have tc : ((txt nm).toList == [99, 111, 117, 110, 116]) = false := by rw [ByteArray.toList_eq, txt_list]; exact hc
  generalize txt nm = tn at *
  clear hc
  have z5 := hgo4.size
  have hl5 : w.heap.size < w4.heap.size := (Array.getElem?_eq_some_iff.1 h04).1
  go_wp2_with fail
  refine (hq _ hps4).mono ?_
  rintro e w6 ⟨u, rfl, oa, n, cap, xs, rfl, hx, hps6, hg6, hlen, hnil, hgd⟩
  have z6 := hg6.size
  go_wp2_with fail
  refine (must_any p ⟨#[41]⟩ _ _ hps6).mono ?_
  rintro e w8 ⟨rfl, hps8, hg8⟩
  have z8 := hg8.size
  have hx8 : XsAt (fun b => w.heap.size ≤ b ∧ b ≠ w.heap.size) w8 xs oa n cap :=
    (hx.of hg8.size (fun b hb hl => hg8.get hl (by have : w4.heap.size ≤ b := hb; omega))).mono (fun b _ hb => by have : w4.heap.size ≤ b := hb; exact ⟨by omega, by omega⟩)
  have H06 : Hid (w8.heap[w.heap.size]? = some (.cells zeroX 32 (0, 0))) := hid (by
    rw [hg8.get (by omega) (by omega), hg6.get hl5 (by omega)]; exact h04)
  have HZ : Hid (w.heap.size < w8.heap.size) := hid (by omega)
  have HPS := hid hps8
  have HGO := hid ((hgo4.trans hg6).trans hg8)
  have HX8 := hid hx8
  have HGD : Hid (((Q.2.need 4 ⟨#[41]⟩).up).good = true → xs = Q.1) := hid (fun h => hgd (need_good (up_good h)))
  clear hps4 hps6 hps8 hg6 hg8 hgo4 h04 hx hx8 hgd hq hlen hnil
  have FI : Hid (∀ W5 w9, Go1 w.heap.size w8 W5 → Go1 p W5 w9 → PS p w9 (Ps.up (Q.2.need 4 ⟨#[41]⟩)) → Rx p w (.mk { op := 5, name := tn } Q.1, (Q.2.need 4 ⟨#[41]⟩).up) (XR.val ⟨{ op := 5, name := tn }, oa, n, cap⟩) w9) := hid (fun W5 w9 h5 h9 hp9 => by
    refine ⟨⟨{ op := 5, name := tn }, oa, n, cap⟩, .mk { op := 5, name := tn } xs, rfl, ?_, hp9, (HGO.out.own h5 (by omega)).trans h9, fun h => by rw [HGD.out h]⟩
    refine (((Ex.At.list.2 ⟨rfl, HX8.out⟩ : Ex.At (fun b => w.heap.size ≤ b ∧ b ≠ w.heap.size) w8 (.mk { op := 5, name := tn } xs) ⟨{ op := 5, name := tn }, oa, n, cap⟩).of h5.size (fun b hb hl => h5.get hl hb.2)).of h9.size (fun b hb hl => h9.get hl (by have := hb.1; omega))).mono (fun b _ hb => hb.1))
  have HPD : Hid (∀ W5, Go1 w.heap.size w8 W5 → PS p W5 (Q.2.need 4 ⟨#[41]⟩)) := hid (fun W5 h5 => HPS.out.go h5 (by omega))
  go_wp2_with (guard_target =~ wpList _ _ _ (Oper.mk _ (Op.store 32 _ _) _ _ _ _ :: _) _ _; refine st_row (ty := 32) rfl rfl w.heap.size _ rfl rfl 32 _ (H06.out) (by kernel_rfl) rfl (by kernel_rfl) ?_; intro W5 hW5 gW5 zW5)
  (try simp only [Exit.inBlock, Exit.then])
  have hp5 : PS p W5 (Q.2.need 4 ⟨#[41]⟩) := HPD.out W5 gW5
  refine leaves_cons (f := 70) (args := #[.pointer (some ⟨p, 0, none⟩)]) (by simp) (by simp [go_sem]) ?_
  refine (up_dfr p (Q.2.need 4 ⟨#[41]⟩) W5 .returning hp5 hup.out).mono ?_
  rintro e u' w9 ⟨rfl, rfl, hps9, hg9⟩
  have hT : ∀ i, w9.cell? ⟨w.heap.size, i, none⟩ = _ := fun i => (hg9.cell (by rw [zW5]; exact HZ.out) (by omega)).trans (Rg.blk_cells hW5 i)
  exact ⟨XR.val ⟨{ op := 5, name := tn }, oa, n, cap⟩, by simp [results, Try.results89, go_sem, XR.val, nul, hT]; try rfl, _, rfl, FI.out W5 w9 gW5 hg9 hps9⟩
theorem count_folds {nm : List UInt8} (h : (nm == (⟨#[99, 111, 117, 110, 116]⟩ : ByteArray).data.toList) = true) : folds nm = true := by unfold folds; rw [h]; rfl
theorem call_any (E : Pa Ex) (hdp : DP E) (p N : Nat) (hor : RdL 18 E p N) (hex : RdsL 56 (sep E) p N) (nm : List UInt8) (s : Ps) (w : World) (hS : PS p w s) (hgood : s.good = true) (hK : s.headK = 1) (hsN : s.size ≤ N) : Calls Try.prog 89 #[.pointer (some ⟨p, 0, none⟩), .string (txt nm)] w (Px p w (callS E nm s)) := by
  cases hD : s.down.good with
  | false => exact call_full E p nm s w hS hgood hD
  | true =>
    obtain ⟨d1, d2, d3, d4⟩ := down_good hD
    have h1 := (head_step (s := s.down) (k := 1) (by rw [d3]; exact hK) (by decide) (by decide)).1
    have h2 := size_need 4 ⟨#[40]⟩ s.down.step
    have hsz : (s.down.step.need 4 ⟨#[40]⟩).size < N := by omega
    cases hc : (nm == (⟨#[99, 111, 117, 110, 116]⟩ : ByteArray).data.toList) with
    | true =>
      cases hst : (s.down.step.need 4 ⟨#[40]⟩).is 4 ⟨#[42]⟩ with
      | true => exact call_star E p nm s w hS hgood hK hD hc hst
      | false => exact call_agg_count E p nm s w hS hgood hK hD (count_folds hc) hc hst hdp (fun w' h' => hor _ w' h' hsz)
    | false =>
      cases hf : folds nm with
      | true => exact call_agg_other E p nm s w hS hgood hK hD hf hc hdp (fun w' h' => hor _ w' h' hsz)
      | false => exact call_call E p nm s w hS hgood hK hD hf hc hdp (fun w' h' => hex _ w' h' hsz)
end Go.Proofs.Ytaogpifcfmjcbaa
end
section
namespace Go.Proofs.Ytaogpifcfmjcbaa
open Go.RowKit
set_option linter.unusedSimpArgs false
set_option linter.unusedVariables false
set_option maxHeartbeats 4000000 in
set_option maxRecDepth 100000 in
theorem may_no (p : Nat) (k : Nat) (c : ByteArray) (s : Ps) (w : World) (h : PS p w s) (hB : s.is k c = false) : Calls Try.prog 35 #[.pointer (some ⟨p, 0, none⟩), .int .i64 (k : Int), .string c] w fun e w' => e = .returned (.bool false) ∧ w' = w := by
  have H := is_any p k c s w h
  rw [hB] at H
  clear h hB
  go_enter Try.func35, Try.ntmps35
  go_wp2_with fail
  refine H.mono ?_
  rintro e w1 ⟨rfl, rfl⟩
  go_wp2
  go_ret
  exact ⟨rfl, rfl⟩
set_option maxHeartbeats 4000000 in
set_option maxRecDepth 100000 in
theorem word_no (p : Nat) (c : ByteArray) (s : Ps) (w : World) (h : PS p w s) (hB : s.is 1 c = false) : Calls Try.prog 25 #[.pointer (some ⟨p, 0, none⟩), .string c] w fun e w' => e = .returned (.bool false) ∧ w' = w := by
  have H : Calls Try.prog 35 #[.pointer (some ⟨p, 0, none⟩), .int .i64 1, .string c] w fun e w' => e = .returned (.bool false) ∧ w' = w := may_no p 1 c s w h hB
  clear h hB
  go_enter Try.func25, Try.ntmps25
  go_wp2_with fail
  refine H.mono ?_
  rintro e w1 ⟨rfl, rfl⟩
  go_wp2
  go_ret
  exact ⟨rfl, rfl⟩
end Go.Proofs.Ytaogpifcfmjcbaa
end
section
namespace Go.Proofs.Ytaogpifcfmjcbaa
open Go.RowKit
set_option linter.unusedSimpArgs false
set_option linter.unusedVariables false
attribute [local go_sem] Rg.leads_value Rg.leads_skip Rg.leads_enter Rg.brings_value Rg.brings_skip Rg.brings_enter Rg.bringsG_value Rg.bringsG_enter Rg.once_normal Rg.once_exit Rg.once_ret Rg.once_panic Rg.once_goto
set_option maxHeartbeats 8000000 in
set_option maxRecDepth 100000 in
theorem single_bad (E : Pa Ex) (p : Nat) (e : Int) (a : Nat) (w : World) (hS : PS p w (.bad e a)) : Calls Try.prog 85 #[.pointer (some ⟨p, 0, none⟩)] w (Px p w (single E (.bad e a))) := by
  have hpw := hS.lt
  have hS2 := hS
  obtain ⟨he, l, d, h⟩ := hS2
  obtain ⟨oa, cap, hh, hc, hat, hne⟩ := h.ex
  have hpos := h.tok.pos
  have r0 := Rg.blk_cells hh 0
  have r2 := Rg.blk_cells hh 2
  simp only [List.getElem?_toArray, List.getElem?_cons_zero, List.getElem?_cons_succ] at r0 r2
  obtain ⟨b, off, hoa, hb, c0, c1, c2, c3⟩ := t_get hat 0 hpos
  simp only [Nat.zero_mul, Nat.add_zero] at c0 c1 c2 c3
  subst hoa
  generalize l[0].tk.kind = tk at *
  generalize l[0].tk.num = tn at *
  generalize l[0].pos = tp at *
  generalize txt l[0].tk.text = tx at *
  generalize l.length = n at *
  have g2 : (0 : Int) < (n : Int) := by omega
  have q1 : (e != 0) = true := by simpa using he
  have hA1 := fun o => (Gr.refl w).alloc o
  have hA := fun o1 o2 => (hA1 o1).alloc o2
  have eR : (single E (.bad e a)).2 = .bad e a := rfl
  generalize single E (.bad e a) = R at *
  have FI : Hid (∀ o1 o2 W5, Go1 w.heap.size ((w.alloc o1).alloc o2) W5 → Rx p w R (XR.val ⟨{ op := 0 }, none, 0, 0⟩) W5) := hid (fun o1 o2 W5 h5 => giveG hpw rfl (formZ (hd := { op := 0 }) (S := fun b => w.heap.size ≤ b ∧ b ≠ w.heap.size)) (by rw [eR]; exact hS.keep (hA o1 o2)) (Go1.of (hA o1 o2)) (fun h => by rw [eR] at h; cases h) h5)
  have H05 : Hid (∀ o2, ((w.alloc (.cells zeroX 32)).alloc o2).heap[w.heap.size]? = some (.cells zeroX 32 (0, 0))) := hid (fun o2 => by rw [((Gr.refl _).alloc _).block _ (by simp)]; exact alloc_at _ _)
  clear h hat hne hh hS hA hA1 eR
  go_enter Try.func85, Try.ntmps85
  go_wp2_with (guard_target =~ wpList _ _ _ (Oper.mk _ (Op.store 32 _ _) _ _ _ _ :: _) _ _; refine st_row (ty := 32) rfl rfl w.heap.size _ rfl rfl 32 _ (H05.out _) (by kernel_rfl) rfl (by kernel_rfl) ?_; intro W5 hW5 gW5 zW5)
  (try change bodyPost _ _ _ _ _ _)
  have hT := Rg.blk_cells hW5
  refine bodyPost_ret (v := XR.val ⟨{ op := 0 }, none, 0, 0⟩) (by simp [results, Try.results85, go_sem, XR.val, nul, hT]; try rfl) rfl ⟨_, rfl, FI.out _ _ W5 gW5⟩
set_option maxHeartbeats 8000000 in
set_option maxRecDepth 100000 in
theorem single_int (E : Pa Ex) (p : Nat) (t : Lx.Tok) (tr : List Lx.Tok) (d : Nat) (s : Ps) (hs : s = .ok (t :: tr) d) (w : World) (hS : PS p w s) (hk : t.tk.kind = 2) : Calls Try.prog 85 #[.pointer (some ⟨p, 0, none⟩)] w (Px p w (single E s)) := by
  have hpw := hS.lt
  have hgood : s.good = true := by rw [hs]; rfl
  have hheadK : s.headK = t.tk.kind := by rw [hs]; rfl
  have hheadT : s.headT = t.tk.text := by rw [hs]; rfl
  have hheadN : s.headN = t.tk.num := by rw [hs]; rfl
  have hS2 := hS
  rw [hs] at hS2
  obtain ⟨hd, h⟩ := hS2
  obtain ⟨oa, cap, hh, hc, hat, hne⟩ := h.ex
  have r0 := Rg.blk_cells hh 0
  have r2 := Rg.blk_cells hh 2
  simp only [List.getElem?_toArray, List.getElem?_cons_zero, List.getElem?_cons_succ] at r0 r2
  obtain ⟨b, off, hoa, hb, c0, c1, c2, c3⟩ := t_get hat 0 (by simp)
  simp only [List.getElem_cons_zero, Nat.zero_mul, Nat.add_zero] at c0 c1 c2 c3
  subst hoa
  obtain ⟨n, hn⟩ : ∃ n, (t :: tr).length = n := ⟨_, rfl⟩
  have hn1 : 1 ≤ n := by rw [← hn]; simp
  rw [hn] at r0 hc
  have g2 : (0 : Int) < (n : Int) := by omega
  have hA1 := fun o => (Gr.refl w).alloc o
  have hA := fun o1 o2 => (hA1 o1).alloc o2
  have hS0 := fun o1 o2 => hS.keep (hA o1 o2)
  have eR : single E s = (litE (numV (t.tk.num : Int)), s.step) := by
    unfold single; rw [hheadK, hk, hheadN]; rfl
  rw [eR]
  clear eR
  have q1 : ((t.tk.kind : Int) == 2) = true := by rw [hk]; rfl
  have hk5 : s.headK ≠ 5 := by rw [hheadK]; omega
  generalize hk0 : t.tk.kind = tk at *
  generalize ht0 : t.tk.text = tx at *
  generalize hm0 : t.tk.num = tn at *
  generalize t.pos = tp at *
  clear h hat hne hh hn hs hS hk0 ht0 hm0
  go_enter Try.func85, Try.ntmps85
  go_wp2_with fail
  refine (step_any p s _ (hS0 _ _) hk5 hgood).mono ?_
  rintro e w1 ⟨rfl, hps1, hg1⟩
  have z1 := hg1.size
  simp only [World.size_alloc] at z1
  have hcc : ∀ i, w1.cell? ⟨w.heap.size + 1, i, none⟩ = (#[.int .i64 2, .string (txt tx), .int .i64 (tn : Int), .int .i64 (tp : Int)] : Array Value)[i]? := fun i => by
    rw [hg1.cell (by simp) (by omega)]
    rw [show w.heap.size + 1 = (w.alloc (.cells zeroX 32)).heap.size from (World.size_alloc w (.cells zeroX 32)).symm]
    exact Rg.blk_cells (alloc_at _ _) i
  have h01 : w1.heap[w.heap.size]? = some (.cells zeroX 32 (0, 0)) := by
    rw [hg1.get (by simp; omega) (by omega), ((Gr.refl _).alloc _).block _ (by simp)]
    exact alloc_at _ _
  have hgo1 : Go1 p w w1 := (Go1.of (hA _ _)).trans hg1
  go_wp2_with fail
  refine (lit_any (numV (tn : Int)) _).mono ?_
  rintro e w2 ⟨rfl, hg2⟩
  have hps2 := hps1.keep hg2
  have hgo2 := hgo1.block2 hg2
  have FI : Hid (∀ W5, Go1 w.heap.size w2 W5 → Rx p w (litE (numV (tn : Int)), s.step) (XR.val ⟨{ op := 1, v := (numV (tn : Int)) }, none, 0, 0⟩) W5) := hid (fun W5 h5 => giveG (R := (litE (numV (tn : Int)), s.step)) hpw rfl (formZ (S := fun b => w.heap.size ≤ b ∧ b ≠ w.heap.size)) hps2 hgo2 (fun _ => rfl) h5)
  have H05 : Hid (w2.heap[w.heap.size]? = some (.cells zeroX 32 (0, 0))) := hid (by rw [hg2.block _ (by omega)]; exact h01)
  clear hps1 hps2 hgo1 hgo2 hg1 hg2 h01 hcc hS0 hA hA1
  unfold XR.val
  go_wp2_with (guard_target =~ wpList _ _ _ (Oper.mk _ (Op.store 32 _ _) _ _ _ _ :: _) _ _; refine st_row (ty := 32) rfl rfl w.heap.size _ rfl rfl 32 _ (H05.out) (by kernel_rfl) rfl (by kernel_rfl) ?_; intro W5 hW5 gW5 zW5)
  (try change bodyPost _ _ _ _ _ _)
  have hT := Rg.blk_cells hW5
  refine bodyPost_ret (v := XR.val ⟨{ op := 1, v := (numV (tn : Int)) }, none, 0, 0⟩) (by simp [results, Try.results85, go_sem, XR.val, nul, hT]; try rfl) rfl ⟨_, rfl, FI.out W5 gW5⟩
set_option maxHeartbeats 8000000 in
set_option maxRecDepth 100000 in
theorem single_text (E : Pa Ex) (p : Nat) (t : Lx.Tok) (tr : List Lx.Tok) (d : Nat) (s : Ps) (hs : s = .ok (t :: tr) d) (w : World) (hS : PS p w s) (hk : t.tk.kind = 3) : Calls Try.prog 85 #[.pointer (some ⟨p, 0, none⟩)] w (Px p w (single E s)) := by
  have hpw := hS.lt
  have hgood : s.good = true := by rw [hs]; rfl
  have hheadK : s.headK = t.tk.kind := by rw [hs]; rfl
  have hheadT : s.headT = t.tk.text := by rw [hs]; rfl
  have hheadN : s.headN = t.tk.num := by rw [hs]; rfl
  have hS2 := hS
  rw [hs] at hS2
  obtain ⟨hd, h⟩ := hS2
  obtain ⟨oa, cap, hh, hc, hat, hne⟩ := h.ex
  have r0 := Rg.blk_cells hh 0
  have r2 := Rg.blk_cells hh 2
  simp only [List.getElem?_toArray, List.getElem?_cons_zero, List.getElem?_cons_succ] at r0 r2
  obtain ⟨b, off, hoa, hb, c0, c1, c2, c3⟩ := t_get hat 0 (by simp)
  simp only [List.getElem_cons_zero, Nat.zero_mul, Nat.add_zero] at c0 c1 c2 c3
  subst hoa
  obtain ⟨n, hn⟩ : ∃ n, (t :: tr).length = n := ⟨_, rfl⟩
  have hn1 : 1 ≤ n := by rw [← hn]; simp
  rw [hn] at r0 hc
  have g2 : (0 : Int) < (n : Int) := by omega
  have hA1 := fun o => (Gr.refl w).alloc o
  have hA := fun o1 o2 => (hA1 o1).alloc o2
  have hS0 := fun o1 o2 => hS.keep (hA o1 o2)
  have eR : single E s = (litE (textV (txt t.tk.text)), s.step) := by
    unfold single; rw [hheadK, hk, hheadT]; rfl
  rw [eR]
  clear eR
  have q1 : ((t.tk.kind : Int) == 2) = false := by rw [hk]; rfl
  have q2 : ((t.tk.kind : Int) == 3) = true := by rw [hk]; rfl
  have hk5 : s.headK ≠ 5 := by rw [hheadK]; omega
  generalize hk0 : t.tk.kind = tk at *
  generalize ht0 : t.tk.text = tx at *
  generalize hm0 : t.tk.num = tn at *
  generalize t.pos = tp at *
  clear h hat hne hh hn hs hS hk0 ht0 hm0
  go_enter Try.func85, Try.ntmps85
  go_wp2_with fail
  refine (step_any p s _ (hS0 _ _) hk5 hgood).mono ?_
  rintro e w1 ⟨rfl, hps1, hg1⟩
  have z1 := hg1.size
  simp only [World.size_alloc] at z1
  have hcc : ∀ i, w1.cell? ⟨w.heap.size + 1, i, none⟩ = (#[.int .i64 3, .string (txt tx), .int .i64 (tn : Int), .int .i64 (tp : Int)] : Array Value)[i]? := fun i => by
    rw [hg1.cell (by simp) (by omega)]
    rw [show w.heap.size + 1 = (w.alloc (.cells zeroX 32)).heap.size from (World.size_alloc w (.cells zeroX 32)).symm]
    exact Rg.blk_cells (alloc_at _ _) i
  have h01 : w1.heap[w.heap.size]? = some (.cells zeroX 32 (0, 0)) := by
    rw [hg1.get (by simp; omega) (by omega), ((Gr.refl _).alloc _).block _ (by simp)]
    exact alloc_at _ _
  have hgo1 : Go1 p w w1 := (Go1.of (hA _ _)).trans hg1
  go_wp2_with fail
  refine (lit_any (textV (txt tx)) _).mono ?_
  rintro e w2 ⟨rfl, hg2⟩
  have hps2 := hps1.keep hg2
  have hgo2 := hgo1.block2 hg2
  have FI : Hid (∀ W5, Go1 w.heap.size w2 W5 → Rx p w (litE (textV (txt tx)), s.step) (XR.val ⟨{ op := 1, v := (textV (txt tx)) }, none, 0, 0⟩) W5) := hid (fun W5 h5 => giveG (R := (litE (textV (txt tx)), s.step)) hpw rfl (formZ (S := fun b => w.heap.size ≤ b ∧ b ≠ w.heap.size)) hps2 hgo2 (fun _ => rfl) h5)
  have H05 : Hid (w2.heap[w.heap.size]? = some (.cells zeroX 32 (0, 0))) := hid (by rw [hg2.block _ (by omega)]; exact h01)
  clear hps1 hps2 hgo1 hgo2 hg1 hg2 h01 hcc hS0 hA hA1
  unfold XR.val
  go_wp2_with (guard_target =~ wpList _ _ _ (Oper.mk _ (Op.store 32 _ _) _ _ _ _ :: _) _ _; refine st_row (ty := 32) rfl rfl w.heap.size _ rfl rfl 32 _ (H05.out) (by kernel_rfl) rfl (by kernel_rfl) ?_; intro W5 hW5 gW5 zW5)
  (try change bodyPost _ _ _ _ _ _)
  have hT := Rg.blk_cells hW5
  refine bodyPost_ret (v := XR.val ⟨{ op := 1, v := (textV (txt tx)) }, none, 0, 0⟩) (by simp [results, Try.results85, go_sem, XR.val, nul, hT]; try rfl) rfl ⟨_, rfl, FI.out W5 gW5⟩
set_option maxHeartbeats 8000000 in
set_option maxRecDepth 100000 in
theorem single_true (E : Pa Ex) (p : Nat) (t : Lx.Tok) (tr : List Lx.Tok) (d : Nat) (s : Ps) (hs : s = .ok (t :: tr) d) (w : World) (hS : PS p w s) (hw : s.is 1 ⟨#[116, 114, 117, 101]⟩ = true) : Calls Try.prog 85 #[.pointer (some ⟨p, 0, none⟩)] w (Px p w (single E s)) := by
  have hpw := hS.lt
  have hgood : s.good = true := by rw [hs]; rfl
  have hheadK : s.headK = t.tk.kind := by rw [hs]; rfl
  have hheadT : s.headT = t.tk.text := by rw [hs]; rfl
  have hheadN : s.headN = t.tk.num := by rw [hs]; rfl
  have hS2 := hS
  rw [hs] at hS2
  obtain ⟨hd, h⟩ := hS2
  obtain ⟨oa, cap, hh, hc, hat, hne⟩ := h.ex
  have r0 := Rg.blk_cells hh 0
  have r2 := Rg.blk_cells hh 2
  simp only [List.getElem?_toArray, List.getElem?_cons_zero, List.getElem?_cons_succ] at r0 r2
  obtain ⟨b, off, hoa, hb, c0, c1, c2, c3⟩ := t_get hat 0 (by simp)
  simp only [List.getElem_cons_zero, Nat.zero_mul, Nat.add_zero] at c0 c1 c2 c3
  subst hoa
  obtain ⟨n, hn⟩ : ∃ n, (t :: tr).length = n := ⟨_, rfl⟩
  have hn1 : 1 ≤ n := by rw [← hn]; simp
  rw [hn] at r0 hc
  have g2 : (0 : Int) < (n : Int) := by omega
  have hA1 := fun o => (Gr.refl w).alloc o
  have hA := fun o1 o2 => (hA1 o1).alloc o2
  have hS0 := fun o1 o2 => hS.keep (hA o1 o2)
  have eR : single E s = (litE (boolV true), s.step) := by
    obtain ⟨_, hk1, _⟩ := is_head hw; unfold single; rw [hk1, hw]; rfl
  rw [eR]
  clear eR
  obtain ⟨_, hk1, ht1⟩ := is_head hw
  rw [hheadK] at hk1
  rw [hheadT] at ht1
  have q1 : ((t.tk.kind : Int) == 2) = false := by rw [hk1]; rfl
  have q2 : ((t.tk.kind : Int) == 3) = false := by rw [hk1]; rfl
  have hstep : (s.may 1 ⟨#[116, 114, 117, 101]⟩).2 = s.step := by simp [Ps.may, hw]
  have qt : ((txt t.tk.text).toList == [116, 114, 117, 101]) = true := by rw [ht1, ByteArray.toList_eq, txt_list]; decide
  generalize hk0 : t.tk.kind = tk at *
  generalize ht0 : t.tk.text = tx at *
  generalize hm0 : t.tk.num = tn at *
  generalize t.pos = tp at *
  clear h hat hne hh hn hs hS hk0 ht0 hm0 hk1 ht1
  go_enter Try.func85, Try.ntmps85
  go_wp2_with fail
  refine (word_any p ⟨#[116, 114, 117, 101]⟩ s _ (hS0 _ _)).mono ?_
  rintro e w1 ⟨rfl, hps1, hg1⟩
  rw [hw]
  rw [hstep] at hps1
  have z1 := hg1.size
  simp only [World.size_alloc] at z1
  have hcc : ∀ i, w1.cell? ⟨w.heap.size + 1, i, none⟩ = (#[.int .i64 (tk : Int), .string (txt tx), .int .i64 (tn : Int), .int .i64 (tp : Int)] : Array Value)[i]? := fun i => by
    rw [hg1.cell (by simp) (by omega)]
    rw [show w.heap.size + 1 = (w.alloc (.cells zeroX 32)).heap.size from (World.size_alloc w (.cells zeroX 32)).symm]
    exact Rg.blk_cells (alloc_at _ _) i
  have h01 : w1.heap[w.heap.size]? = some (.cells zeroX 32 (0, 0)) := by
    rw [hg1.get (by simp; omega) (by omega), ((Gr.refl _).alloc _).block _ (by simp)]
    exact alloc_at _ _
  have hgo1 : Go1 p w w1 := (Go1.of (hA _ _)).trans hg1
  go_wp2_with fail
  refine (lit_any (boolV true) _).mono ?_
  rintro e w2 ⟨rfl, hg2⟩
  have hps2 := hps1.keep hg2
  have hgo2 := hgo1.block2 hg2
  have FI : Hid (∀ W5, Go1 w.heap.size w2 W5 → Rx p w (litE (boolV true), s.step) (XR.val ⟨{ op := 1, v := (boolV true) }, none, 0, 0⟩) W5) := hid (fun W5 h5 => giveG (R := (litE (boolV true), s.step)) hpw rfl (formZ (S := fun b => w.heap.size ≤ b ∧ b ≠ w.heap.size)) hps2 hgo2 (fun _ => rfl) h5)
  have H05 : Hid (w2.heap[w.heap.size]? = some (.cells zeroX 32 (0, 0))) := hid (by rw [hg2.block _ (by omega)]; exact h01)
  clear hps1 hps2 hgo1 hgo2 hg1 hg2 h01 hcc hS0 hA hA1
  unfold XR.val
  go_wp2_with (guard_target =~ wpList _ _ _ (Oper.mk _ (Op.store 32 _ _) _ _ _ _ :: _) _ _; refine st_row (ty := 32) rfl rfl w.heap.size _ rfl rfl 32 _ (H05.out) (by kernel_rfl) rfl (by kernel_rfl) ?_; intro W5 hW5 gW5 zW5)
  (try change bodyPost _ _ _ _ _ _)
  have hT := Rg.blk_cells hW5
  refine bodyPost_ret (v := XR.val ⟨{ op := 1, v := (boolV true) }, none, 0, 0⟩) (by simp [results, Try.results85, go_sem, XR.val, nul, hT]; try rfl) rfl ⟨_, rfl, FI.out W5 gW5⟩
set_option maxHeartbeats 8000000 in
set_option maxRecDepth 100000 in
theorem single_false (E : Pa Ex) (p : Nat) (t : Lx.Tok) (tr : List Lx.Tok) (d : Nat) (s : Ps) (hs : s = .ok (t :: tr) d) (w : World) (hS : PS p w s) (hw : s.is 1 ⟨#[102, 97, 108, 115, 101]⟩ = true) (hn_true : s.is 1 ⟨#[116, 114, 117, 101]⟩ = false) : Calls Try.prog 85 #[.pointer (some ⟨p, 0, none⟩)] w (Px p w (single E s)) := by
  have hpw := hS.lt
  have hgood : s.good = true := by rw [hs]; rfl
  have hheadK : s.headK = t.tk.kind := by rw [hs]; rfl
  have hheadT : s.headT = t.tk.text := by rw [hs]; rfl
  have hheadN : s.headN = t.tk.num := by rw [hs]; rfl
  have hS2 := hS
  rw [hs] at hS2
  obtain ⟨hd, h⟩ := hS2
  obtain ⟨oa, cap, hh, hc, hat, hne⟩ := h.ex
  have r0 := Rg.blk_cells hh 0
  have r2 := Rg.blk_cells hh 2
  simp only [List.getElem?_toArray, List.getElem?_cons_zero, List.getElem?_cons_succ] at r0 r2
  obtain ⟨b, off, hoa, hb, c0, c1, c2, c3⟩ := t_get hat 0 (by simp)
  simp only [List.getElem_cons_zero, Nat.zero_mul, Nat.add_zero] at c0 c1 c2 c3
  subst hoa
  obtain ⟨n, hn⟩ : ∃ n, (t :: tr).length = n := ⟨_, rfl⟩
  have hn1 : 1 ≤ n := by rw [← hn]; simp
  rw [hn] at r0 hc
  have g2 : (0 : Int) < (n : Int) := by omega
  have hA1 := fun o => (Gr.refl w).alloc o
  have hA := fun o1 o2 => (hA1 o1).alloc o2
  have hS0 := fun o1 o2 => hS.keep (hA o1 o2)
  have eR : single E s = (litE (boolV false), s.step) := by
    obtain ⟨_, hk1, _⟩ := is_head hw; unfold single; rw [hk1, hn_true, hw]; rfl
  rw [eR]
  clear eR
  obtain ⟨_, hk1, ht1⟩ := is_head hw
  rw [hheadK] at hk1
  rw [hheadT] at ht1
  have q1 : ((t.tk.kind : Int) == 2) = false := by rw [hk1]; rfl
  have q2 : ((t.tk.kind : Int) == 3) = false := by rw [hk1]; rfl
  have hstep : (s.may 1 ⟨#[102, 97, 108, 115, 101]⟩).2 = s.step := by simp [Ps.may, hw]
  have qt : ((txt t.tk.text).toList == [116, 114, 117, 101]) = false := by rw [ht1, ByteArray.toList_eq, txt_list]; decide
  generalize hk0 : t.tk.kind = tk at *
  generalize ht0 : t.tk.text = tx at *
  generalize hm0 : t.tk.num = tn at *
  generalize t.pos = tp at *
  clear h hat hne hh hn hs hS hk0 ht0 hm0 hk1 ht1
  go_enter Try.func85, Try.ntmps85
  go_wp2_with fail
  refine (word_no p ⟨#[116, 114, 117, 101]⟩ s _ (hS0 _ _) hn_true).mono ?_
  rintro e w' ⟨rfl, rfl⟩
  go_wp2_with fail
  refine (word_any p ⟨#[102, 97, 108, 115, 101]⟩ s _ (hS0 _ _)).mono ?_
  rintro e w1 ⟨rfl, hps1, hg1⟩
  rw [hw]
  rw [hstep] at hps1
  have z1 := hg1.size
  simp only [World.size_alloc] at z1
  have hcc : ∀ i, w1.cell? ⟨w.heap.size + 1, i, none⟩ = (#[.int .i64 (tk : Int), .string (txt tx), .int .i64 (tn : Int), .int .i64 (tp : Int)] : Array Value)[i]? := fun i => by
    rw [hg1.cell (by simp) (by omega)]
    rw [show w.heap.size + 1 = (w.alloc (.cells zeroX 32)).heap.size from (World.size_alloc w (.cells zeroX 32)).symm]
    exact Rg.blk_cells (alloc_at _ _) i
  have h01 : w1.heap[w.heap.size]? = some (.cells zeroX 32 (0, 0)) := by
    rw [hg1.get (by simp; omega) (by omega), ((Gr.refl _).alloc _).block _ (by simp)]
    exact alloc_at _ _
  have hgo1 : Go1 p w w1 := (Go1.of (hA _ _)).trans hg1
  go_wp2_with fail
  refine (lit_any (boolV false) _).mono ?_
  rintro e w2 ⟨rfl, hg2⟩
  have hps2 := hps1.keep hg2
  have hgo2 := hgo1.block2 hg2
  have FI : Hid (∀ W5, Go1 w.heap.size w2 W5 → Rx p w (litE (boolV false), s.step) (XR.val ⟨{ op := 1, v := (boolV false) }, none, 0, 0⟩) W5) := hid (fun W5 h5 => giveG (R := (litE (boolV false), s.step)) hpw rfl (formZ (S := fun b => w.heap.size ≤ b ∧ b ≠ w.heap.size)) hps2 hgo2 (fun _ => rfl) h5)
  have H05 : Hid (w2.heap[w.heap.size]? = some (.cells zeroX 32 (0, 0))) := hid (by rw [hg2.block _ (by omega)]; exact h01)
  clear hps1 hps2 hgo1 hgo2 hg1 hg2 h01 hcc hS0 hA hA1
  unfold XR.val
  go_wp2_with (guard_target =~ wpList _ _ _ (Oper.mk _ (Op.store 32 _ _) _ _ _ _ :: _) _ _; refine st_row (ty := 32) rfl rfl w.heap.size _ rfl rfl 32 _ (H05.out) (by kernel_rfl) rfl (by kernel_rfl) ?_; intro W5 hW5 gW5 zW5)
  (try change bodyPost _ _ _ _ _ _)
  have hT := Rg.blk_cells hW5
  refine bodyPost_ret (v := XR.val ⟨{ op := 1, v := (boolV false) }, none, 0, 0⟩) (by simp [results, Try.results85, go_sem, XR.val, nul, hT]; try rfl) rfl ⟨_, rfl, FI.out W5 gW5⟩
set_option maxHeartbeats 8000000 in
set_option maxRecDepth 100000 in
theorem single_null (E : Pa Ex) (p : Nat) (t : Lx.Tok) (tr : List Lx.Tok) (d : Nat) (s : Ps) (hs : s = .ok (t :: tr) d) (w : World) (hS : PS p w s) (hw : s.is 1 ⟨#[110, 117, 108, 108]⟩ = true) (hn_true : s.is 1 ⟨#[116, 114, 117, 101]⟩ = false) (hn_false : s.is 1 ⟨#[102, 97, 108, 115, 101]⟩ = false) : Calls Try.prog 85 #[.pointer (some ⟨p, 0, none⟩)] w (Px p w (single E s)) := by
  have hpw := hS.lt
  have hgood : s.good = true := by rw [hs]; rfl
  have hheadK : s.headK = t.tk.kind := by rw [hs]; rfl
  have hheadT : s.headT = t.tk.text := by rw [hs]; rfl
  have hheadN : s.headN = t.tk.num := by rw [hs]; rfl
  have hS2 := hS
  rw [hs] at hS2
  obtain ⟨hd, h⟩ := hS2
  obtain ⟨oa, cap, hh, hc, hat, hne⟩ := h.ex
  have r0 := Rg.blk_cells hh 0
  have r2 := Rg.blk_cells hh 2
  simp only [List.getElem?_toArray, List.getElem?_cons_zero, List.getElem?_cons_succ] at r0 r2
  obtain ⟨b, off, hoa, hb, c0, c1, c2, c3⟩ := t_get hat 0 (by simp)
  simp only [List.getElem_cons_zero, Nat.zero_mul, Nat.add_zero] at c0 c1 c2 c3
  subst hoa
  obtain ⟨n, hn⟩ : ∃ n, (t :: tr).length = n := ⟨_, rfl⟩
  have hn1 : 1 ≤ n := by rw [← hn]; simp
  rw [hn] at r0 hc
  have g2 : (0 : Int) < (n : Int) := by omega
  have hA1 := fun o => (Gr.refl w).alloc o
  have hA := fun o1 o2 => (hA1 o1).alloc o2
  have hS0 := fun o1 o2 => hS.keep (hA o1 o2)
  have eR : single E s = (litE nul, s.step) := by
    obtain ⟨_, hk1, _⟩ := is_head hw; unfold single; rw [hk1, hn_true, hn_false, hw]; rfl
  rw [eR]
  clear eR
  obtain ⟨_, hk1, ht1⟩ := is_head hw
  rw [hheadK] at hk1
  rw [hheadT] at ht1
  have q1 : ((t.tk.kind : Int) == 2) = false := by rw [hk1]; rfl
  have q2 : ((t.tk.kind : Int) == 3) = false := by rw [hk1]; rfl
  have hstep : (s.may 1 ⟨#[110, 117, 108, 108]⟩).2 = s.step := by simp [Ps.may, hw]
  generalize hk0 : t.tk.kind = tk at *
  generalize ht0 : t.tk.text = tx at *
  generalize hm0 : t.tk.num = tn at *
  generalize t.pos = tp at *
  clear h hat hne hh hn hs hS hk0 ht0 hm0 hk1 ht1
  go_enter Try.func85, Try.ntmps85
  go_wp2_with fail
  refine (word_no p ⟨#[116, 114, 117, 101]⟩ s _ (hS0 _ _) hn_true).mono ?_
  rintro e w' ⟨rfl, rfl⟩
  go_wp2_with fail
  refine (word_no p ⟨#[102, 97, 108, 115, 101]⟩ s _ (hS0 _ _) hn_false).mono ?_
  rintro e w' ⟨rfl, rfl⟩
  go_wp2_with fail
  refine (word_any p ⟨#[110, 117, 108, 108]⟩ s _ (hS0 _ _)).mono ?_
  rintro e w1 ⟨rfl, hps1, hg1⟩
  rw [hw]
  rw [hstep] at hps1
  have z1 := hg1.size
  simp only [World.size_alloc] at z1
  have hcc : ∀ i, w1.cell? ⟨w.heap.size + 1, i, none⟩ = (#[.int .i64 (tk : Int), .string (txt tx), .int .i64 (tn : Int), .int .i64 (tp : Int)] : Array Value)[i]? := fun i => by
    rw [hg1.cell (by simp) (by omega)]
    rw [show w.heap.size + 1 = (w.alloc (.cells zeroX 32)).heap.size from (World.size_alloc w (.cells zeroX 32)).symm]
    exact Rg.blk_cells (alloc_at _ _) i
  have h01 : w1.heap[w.heap.size]? = some (.cells zeroX 32 (0, 0)) := by
    rw [hg1.get (by simp; omega) (by omega), ((Gr.refl _).alloc _).block _ (by simp)]
    exact alloc_at _ _
  have hgo1 : Go1 p w w1 := (Go1.of (hA _ _)).trans hg1
  go_wp2_with fail
  refine (lit_any nul _).mono ?_
  rintro e w2 ⟨rfl, hg2⟩
  have hps2 := hps1.keep hg2
  have hgo2 := hgo1.block2 hg2
  have FI : Hid (∀ W5, Go1 w.heap.size w2 W5 → Rx p w (litE nul, s.step) (XR.val ⟨{ op := 1, v := nul }, none, 0, 0⟩) W5) := hid (fun W5 h5 => giveG (R := (litE nul, s.step)) hpw rfl (formZ (S := fun b => w.heap.size ≤ b ∧ b ≠ w.heap.size)) hps2 hgo2 (fun _ => rfl) h5)
  have H05 : Hid (w2.heap[w.heap.size]? = some (.cells zeroX 32 (0, 0))) := hid (by rw [hg2.block _ (by omega)]; exact h01)
  clear hps1 hps2 hgo1 hgo2 hg1 hg2 h01 hcc hS0 hA hA1
  unfold XR.val
  go_wp2_with (guard_target =~ wpList _ _ _ (Oper.mk _ (Op.store 32 _ _) _ _ _ _ :: _) _ _; refine st_row (ty := 32) rfl rfl w.heap.size _ rfl rfl 32 _ (H05.out) (by kernel_rfl) rfl (by kernel_rfl) ?_; intro W5 hW5 gW5 zW5)
  (try change bodyPost _ _ _ _ _ _)
  have hT := Rg.blk_cells hW5
  refine bodyPost_ret (v := XR.val ⟨{ op := 1, v := nul }, none, 0, 0⟩) (by simp [results, Try.results85, go_sem, XR.val, nul, hT]; try rfl) rfl ⟨_, rfl, FI.out W5 gW5⟩
end Go.Proofs.Ytaogpifcfmjcbaa
end
section
namespace Go.Proofs.Ytaogpifcfmjcbaa
open Go.RowKit
set_option linter.unusedSimpArgs false
set_option linter.unusedVariables false
attribute [local go_sem] Rg.leads_value Rg.leads_skip Rg.leads_enter Rg.brings_value Rg.brings_skip Rg.brings_enter Rg.bringsG_value Rg.bringsG_enter Rg.once_normal Rg.once_exit Rg.once_ret Rg.once_panic Rg.once_goto
theorem is_other {s : Ps} {k k' : Nat} {c c' : ByteArray} (h : s.is k c = true) (hk : k ≠ k') : s.is k' c' = false := by
  match s, h with
  | .ok (t :: r) d, h =>
    simp [Ps.is] at h ⊢
    intro e
    exact absurd (h.1.symm.trans e) hk
set_option maxHeartbeats 8000000 in
set_option maxRecDepth 100000 in
theorem single_paren_full (E : Pa Ex) (p : Nat) (t : Lx.Tok) (tr : List Lx.Tok) (d : Nat) (s : Ps) (hs : s = .ok (t :: tr) d) (w : World) (hS : PS p w s) (hw : s.is 4 ⟨#[40]⟩ = true) (hD : s.down.good = false) : Calls Try.prog 85 #[.pointer (some ⟨p, 0, none⟩)] w (Px p w (single E s)) := by
  have hpw := hS.lt
  have hgood : s.good = true := by rw [hs]; rfl
  have hheadK : s.headK = t.tk.kind := by rw [hs]; rfl
  have hheadT : s.headT = t.tk.text := by rw [hs]; rfl
  have hheadN : s.headN = t.tk.num := by rw [hs]; rfl
  have hS2 := hS
  rw [hs] at hS2
  obtain ⟨hd, h⟩ := hS2
  obtain ⟨oa, cap, hh, hc, hat, hne⟩ := h.ex
  have r0 := Rg.blk_cells hh 0
  have r2 := Rg.blk_cells hh 2
  simp only [List.getElem?_toArray, List.getElem?_cons_zero, List.getElem?_cons_succ] at r0 r2
  obtain ⟨b, off, hoa, hb, c0, c1, c2, c3⟩ := t_get hat 0 (by simp)
  simp only [List.getElem_cons_zero, Nat.zero_mul, Nat.add_zero] at c0 c1 c2 c3
  subst hoa
  obtain ⟨n, hn⟩ : ∃ n, (t :: tr).length = n := ⟨_, rfl⟩
  have hn1 : 1 ≤ n := by rw [← hn]; simp
  rw [hn] at r0 hc
  have g2 : (0 : Int) < (n : Int) := by omega
  have hA1 := fun o => (Gr.refl w).alloc o
  have hA := fun o1 o2 => (hA1 o1).alloc o2
  have hS0 := fun o1 o2 => hS.keep (hA o1 o2)
  have eR : single E s = (noEx, s.down) := by
    obtain ⟨_, hk1, _⟩ := is_head hw; unfold single; rw [hk1, is_other hw (by decide), is_other hw (by decide), is_other hw (by decide), hw, hD]; rfl
  rw [eR]
  clear eR
  obtain ⟨_, hk1, ht1⟩ := is_head hw
  rw [hheadK] at hk1
  have q1 : ((t.tk.kind : Int) == 2) = false := by rw [hk1]; rfl
  have q2 : ((t.tk.kind : Int) == 3) = false := by rw [hk1]; rfl
  have w1a := is_other (k' := 1) (c' := ⟨#[116, 114, 117, 101]⟩) hw (by decide)
  have w1b := is_other (k' := 1) (c' := ⟨#[102, 97, 108, 115, 101]⟩) hw (by decide)
  have w1c := is_other (k' := 1) (c' := ⟨#[110, 117, 108, 108]⟩) hw (by decide)
  have h0a : ∀ o2, ((w.alloc (.cells zeroX 32)).alloc o2).heap[w.heap.size]? = some (.cells zeroX 32 (0, 0)) := fun o2 => by
    rw [((Gr.refl _).alloc _).block _ (by simp)]; exact alloc_at _ _
  generalize hk0 : t.tk.kind = tk at *
  generalize ht0 : t.tk.text = tx at *
  generalize hm0 : t.tk.num = tn at *
  generalize t.pos = tp at *
  clear h hat hne hh hn hs hS hk0 ht0 hm0 hk1 ht1 hheadK hheadT hheadN
  go_enter Try.func85, Try.ntmps85
  go_wp2_with fail
  refine (word_no p ⟨#[116, 114, 117, 101]⟩ s _ (hS0 _ _) w1a).mono ?_
  rintro e w' ⟨rfl, rfl⟩
  go_wp2_with fail
  refine (word_no p ⟨#[102, 97, 108, 115, 101]⟩ s _ (hS0 _ _) w1b).mono ?_
  rintro e w' ⟨rfl, rfl⟩
  go_wp2_with fail
  refine (word_no p ⟨#[110, 117, 108, 108]⟩ s _ (hS0 _ _) w1c).mono ?_
  rintro e w' ⟨rfl, rfl⟩
  go_wp2_with fail
  refine (is4_any p ⟨#[40]⟩ s _ (hS0 _ _)).mono ?_
  rintro e w' ⟨rfl, rfl⟩
  rw [hw]
  go_wp2_with fail
  refine (down_any p s _ (hS0 _ _) hgood).mono ?_
  rintro e w2 ⟨rfl, hps2, hg2⟩
  rw [hD]
  have z2 := hg2.size
  simp only [World.size_alloc] at z2
  have h02 : w2.heap[w.heap.size]? = some (.cells zeroX 32 (0, 0)) := by
    rw [hg2.get (by simp; omega) (by omega)]; exact h0a _
  have hgo2 : Go1 p w w2 := (Go1.of (hA _ _)).trans hg2
  clear hg2 hS0 hA hA1 h0a
  have FI : Hid (∀ W5, Go1 w.heap.size w2 W5 → Rx p w (noEx, s.down) (XR.val ⟨{ op := 0 }, none, 0, 0⟩) W5) := hid (fun W5 h5 => giveG hpw rfl (formZ (S := fun b => w.heap.size ≤ b ∧ b ≠ w.heap.size)) hps2 hgo2 (fun _ => rfl) h5)
  have H05 := hid h02
  clear hps2 hgo2 h02
  go_wp2_with (guard_target =~ wpList _ _ _ (Oper.mk _ (Op.store 32 _ _) _ _ _ _ :: _) _ _; refine st_row (ty := 32) rfl rfl w.heap.size _ rfl rfl 32 _ (H05.out) (by kernel_rfl) rfl (by kernel_rfl) ?_; intro W5 hW5 gW5 zW5)
  (try change bodyPost _ _ _ _ _ _)
  have hT := Rg.blk_cells hW5
  refine bodyPost_ret (v := XR.val ⟨{ op := 0 }, none, 0, 0⟩) (by simp [results, Try.results85, go_sem, XR.val, nul, hT]; try rfl) rfl ⟨_, rfl, FI.out W5 gW5⟩
set_option maxHeartbeats 8000000 in
set_option maxRecDepth 100000 in
theorem single_paren (E : Pa Ex) (p : Nat) (t : Lx.Tok) (tr : List Lx.Tok) (d : Nat) (s : Ps) (hs : s = .ok (t :: tr) d) (w : World) (hS : PS p w s) (hw : s.is 4 ⟨#[40]⟩ = true) (hD : s.down.good = true) (hdp : DP E) (hq : ∀ w', PS p w' s.down.step → Calls Try.prog 18 #[.pointer (some ⟨p, 0, none⟩)] w' (Px p w' (E s.down.step))) : Calls Try.prog 85 #[.pointer (some ⟨p, 0, none⟩)] w (Px p w (single E s)) := by
  have hpw := hS.lt
  have hgood : s.good = true := by rw [hs]; rfl
  have hheadK : s.headK = t.tk.kind := by rw [hs]; rfl
  have hheadT : s.headT = t.tk.text := by rw [hs]; rfl
  have hheadN : s.headN = t.tk.num := by rw [hs]; rfl
  have hS2 := hS
  rw [hs] at hS2
  obtain ⟨hd, h⟩ := hS2
  obtain ⟨oa, cap, hh, hc, hat, hne⟩ := h.ex
  have r0 := Rg.blk_cells hh 0
  have r2 := Rg.blk_cells hh 2
  simp only [List.getElem?_toArray, List.getElem?_cons_zero, List.getElem?_cons_succ] at r0 r2
  obtain ⟨b, off, hoa, hb, c0, c1, c2, c3⟩ := t_get hat 0 (by simp)
  simp only [List.getElem_cons_zero, Nat.zero_mul, Nat.add_zero] at c0 c1 c2 c3
  subst hoa
  obtain ⟨n, hn⟩ : ∃ n, (t :: tr).length = n := ⟨_, rfl⟩
  have hn1 : 1 ≤ n := by rw [← hn]; simp
  rw [hn] at r0 hc
  have g2 : (0 : Int) < (n : Int) := by omega
  have hA1 := fun o => (Gr.refl w).alloc o
  have hA := fun o1 o2 => (hA1 o1).alloc o2
  have hS0 := fun o1 o2 => hS.keep (hA o1 o2)
  have eR : single E s = ((E s.down.step).1, ((E s.down.step).2.need 4 ⟨#[41]⟩).up) := by
    obtain ⟨_, hk1, _⟩ := is_head hw; unfold single; rw [hk1, is_other hw (by decide), is_other hw (by decide), is_other hw (by decide), hw, hD]; rfl
  rw [eR]
  clear eR
  have hup : Hid (∀ l d, (E s.down.step).2.need 4 ⟨#[41]⟩ = .ok l d → 1 ≤ d) := hid (down_deep hD (As.trans (as_need _ _ _) (As.trans (hdp _) (as_step s.down)))).1
  obtain ⟨d1, d2, d3, d4⟩ := down_good hD
  have hk5 : s.down.headK ≠ 5 := by rw [(is_head (s := s.down) (k := 4) (c := ⟨#[40]⟩) (by rw [d4]; exact hw)).2.1]; decide
  generalize hQ : E s.down.step = Q at *
  obtain ⟨_, hk1, ht1⟩ := is_head hw
  rw [hheadK] at hk1
  have q1 : ((t.tk.kind : Int) == 2) = false := by rw [hk1]; rfl
  have q2 : ((t.tk.kind : Int) == 3) = false := by rw [hk1]; rfl
  have w1a := is_other (k' := 1) (c' := ⟨#[116, 114, 117, 101]⟩) hw (by decide)
  have w1b := is_other (k' := 1) (c' := ⟨#[102, 97, 108, 115, 101]⟩) hw (by decide)
  have w1c := is_other (k' := 1) (c' := ⟨#[110, 117, 108, 108]⟩) hw (by decide)
  have h0a : ∀ o2, ((w.alloc (.cells zeroX 32)).alloc o2).heap[w.heap.size]? = some (.cells zeroX 32 (0, 0)) := fun o2 => by
    rw [((Gr.refl _).alloc _).block _ (by simp)]; exact alloc_at _ _
  generalize hk0 : t.tk.kind = tk at *
  generalize ht0 : t.tk.text = tx at *
  generalize hm0 : t.tk.num = tn at *
  generalize t.pos = tp at *
  clear h hat hne hh hn hs hS hk0 ht0 hm0 hk1 ht1 hheadK hheadT hheadN
  go_enter Try.func85, Try.ntmps85
  go_wp2_with fail
  refine (word_no p ⟨#[116, 114, 117, 101]⟩ s _ (hS0 _ _) w1a).mono ?_
  rintro e w' ⟨rfl, rfl⟩
  go_wp2_with fail
  refine (word_no p ⟨#[102, 97, 108, 115, 101]⟩ s _ (hS0 _ _) w1b).mono ?_
  rintro e w' ⟨rfl, rfl⟩
  go_wp2_with fail
  refine (word_no p ⟨#[110, 117, 108, 108]⟩ s _ (hS0 _ _) w1c).mono ?_
  rintro e w' ⟨rfl, rfl⟩
  go_wp2_with fail
  refine (is4_any p ⟨#[40]⟩ s _ (hS0 _ _)).mono ?_
  rintro e w' ⟨rfl, rfl⟩
  rw [hw]
  go_wp2_with fail
  refine (down_any p s _ (hS0 _ _) hgood).mono ?_
  rintro e w2 ⟨rfl, hps2, hg2⟩
  rw [hD]
  have z2 := hg2.size
  simp only [World.size_alloc] at z2
  have h02 : w2.heap[w.heap.size]? = some (.cells zeroX 32 (0, 0)) := by
    rw [hg2.get (by simp; omega) (by omega)]; exact h0a _
  have hgo2 : Go1 p w w2 := (Go1.of (hA _ _)).trans hg2
  clear hg2 hS0 hA hA1 h0a
  go_wp2_with fail
  refine (step_any p s.down _ hps2 hk5 hD).mono ?_
  rintro e w3 ⟨rfl, hps3, hg3⟩
  have z3 := hg3.size
  have h03 : w3.heap[w.heap.size]? = some (.cells zeroX 32 (0, 0)) := by
    rw [hg3.get (by omega) (by omega)]; exact h02
  go_wp2_with fail
  refine (hq _ hps3).mono ?_
  rintro e w6 ⟨u, rfl, r, x, rfl, hx, hps6, hg6, hgd⟩
  unfold XR.val
  have hA6 := fun o => (Gr.refl w6).alloc o
  have hps7 := fun o => hps6.keep (hA6 o)
  have z6 := hg6.size
  go_wp2_with fail
  refine (must_any p ⟨#[41]⟩ _ _ (hps7 _)).mono ?_
  rintro e w8 ⟨rfl, hps8, hg8⟩
  go_wp2_with fail
  refine (up_any p _ _ hps8 hup.out).mono ?_
  rintro e w9 ⟨rfl, hps9, hg9⟩
  have hg89 := hg8.trans hg9
  have z8 := hg89.size
  simp only [World.size_alloc] at z8
  have hp6 := hps6.lt
  have hr8 : w9.heap[w6.heap.size]? = some (.cells r.cells 32 (0, 0)) := by
    rw [hg89.get (by simp) (by omega)]; exact alloc_at _ _
  have h08 : w9.heap[w.heap.size]? = some (.cells zeroX 32 (0, 0)) := by
    rw [hg89.get (by simp; omega) (by omega), (hA6 _).block _ (by omega), hg6.get (by omega) (by omega)]; exact h03
  have hx8 : Ex.At (fun b => w.heap.size ≤ b ∧ b ≠ w.heap.size) w9 x r := by
    refine ((hx.of (by simp) (fun b hb hl => (hA6 (.cells r.cells 32)).block b hl)).of hg89.size (fun b hb hl => hg89.get hl (by have : w3.heap.size ≤ b := hb; omega))).mono (fun b _ hb => by have : w3.heap.size ≤ b := hb; exact ⟨by omega, by omega⟩)
  have hgo8 : Go1 p w w9 := (((hgo2.trans hg3).trans hg6).block2 (hA6 _)).trans hg89
  have cE := Rg.blk_cells hr8
  simp only [XR.cells] at cE
  have FI : Hid (∀ W5, Go1 w.heap.size w9 W5 → Rx p w (Q.1, (Q.2.need 4 ⟨#[41]⟩).up) (XR.val r) W5) := hid (fun W5 h5 => giveG (R := (Q.1, (Q.2.need 4 ⟨#[41]⟩).up)) hpw rfl hx8 hps9 hgo8 (fun h => hgd (need_good (up_good h))) h5)
  have H05 := hid h08
  clear hps2 hps3 hps6 hps7 hps8 hps9 hg3 hg6 hg8 hg9 hg89 hgo2 hgo8 h02 h03 h08 hx hx8 hr8 hgd hq hA6
  go_wp2_with (guard_target =~ wpList _ _ _ (Oper.mk _ (Op.store 32 _ _) _ _ _ _ :: _) _ _; refine st_row (ty := 32) rfl rfl w.heap.size _ rfl rfl 32 _ (H05.out) (by kernel_rfl) rfl (by kernel_rfl) ?_; intro W5 hW5 gW5 zW5)
  (try change bodyPost _ _ _ _ _ _)
  have hT := Rg.blk_cells hW5
  refine bodyPost_ret (v := XR.val r) (by simp [results, Try.results85, go_sem, XR.val, nul, hT]; try rfl) rfl ⟨_, rfl, FI.out W5 gW5⟩
end Go.Proofs.Ytaogpifcfmjcbaa
end
section
namespace Go.Proofs.Ytaogpifcfmjcbaa
open Go.RowKit
set_option linter.unusedSimpArgs false
set_option linter.unusedVariables false
attribute [local go_sem] Rg.leads_value Rg.leads_skip Rg.leads_enter Rg.brings_value Rg.brings_skip Rg.brings_enter Rg.bringsG_value Rg.bringsG_enter Rg.once_normal Rg.once_exit Rg.once_ret Rg.once_panic Rg.once_goto
set_option maxHeartbeats 8000000 in
set_option maxRecDepth 100000 in
theorem single_built (E : Pa Ex) (p : Nat) (t : Lx.Tok) (tr : List Lx.Tok) (d : Nat) (s : Ps) (hs : s = .ok (t :: tr) d) (w : World) (hS : PS p w s) (hn_true : s.is 1 ⟨#[116, 114, 117, 101]⟩ = false) (hn_false : s.is 1 ⟨#[102, 97, 108, 115, 101]⟩ = false) (hn_null : s.is 1 ⟨#[110, 117, 108, 108]⟩ = false) (hk1 : t.tk.kind = 1) (hw4 : s.is 4 ⟨#[40]⟩ = false) (hbt : built t.tk.text = true) (hcall : ∀ w', PS p w' s → Calls Try.prog 89 #[.pointer (some ⟨p, 0, none⟩), .string (txt s.headT)] w' (Px p w' (callS E s.headT s))) : Calls Try.prog 85 #[.pointer (some ⟨p, 0, none⟩)] w (Px p w (single E s)) := by
  have hpw := hS.lt
  have hgood : s.good = true := by rw [hs]; rfl
  have hheadK : s.headK = t.tk.kind := by rw [hs]; rfl
  have hheadT : s.headT = t.tk.text := by rw [hs]; rfl
  have hheadN : s.headN = t.tk.num := by rw [hs]; rfl
  have hS2 := hS
  rw [hs] at hS2
  obtain ⟨hd, h⟩ := hS2
  obtain ⟨oa, cap, hh, hc, hat, hne⟩ := h.ex
  have r0 := Rg.blk_cells hh 0
  have r2 := Rg.blk_cells hh 2
  simp only [List.getElem?_toArray, List.getElem?_cons_zero, List.getElem?_cons_succ] at r0 r2
  obtain ⟨b, off, hoa, hb, c0, c1, c2, c3⟩ := t_get hat 0 (by simp)
  simp only [List.getElem_cons_zero, Nat.zero_mul, Nat.add_zero] at c0 c1 c2 c3
  subst hoa
  obtain ⟨n, hn⟩ : ∃ n, (t :: tr).length = n := ⟨_, rfl⟩
  have hn1 : 1 ≤ n := by rw [← hn]; simp
  rw [hn] at r0 hc
  have g2 : (0 : Int) < (n : Int) := by omega
  have hA1 := fun o => (Gr.refl w).alloc o
  have hA := fun o1 o2 => (hA1 o1).alloc o2
  have hS0 := fun o1 o2 => hS.keep (hA o1 o2)
  have eR : single E s = callS E s.headT s := by
    unfold single; rw [hheadK, hheadT]; simp only [hk1, hn_true, hn_false, hn_null, hw4, hbt]; rfl
  rw [eR]
  clear eR
  rw [hheadT] at hcall
  rw [hheadT]
  have q1 : ((t.tk.kind : Int) == 2) = false := by rw [hk1]; rfl
  have q2 : ((t.tk.kind : Int) == 3) = false := by rw [hk1]; rfl
  have q3 : ((t.tk.kind : Int) == 1) = true := by rw [hk1]; rfl
  have hb0 := fun w => built_any (txt t.tk.text) w
  rw [txt_list] at hb0
  obtain ⟨m, hm⟩ := h.gl
  have hsz : (txt t.tk.text).size ≤ 140737488355328 := by rw [txt_size]; have := h.tok.text t (by simp); omega
  have hnm := fun w' (h' : w'.cell? ⟨0, 0, none⟩ = some (.int .i64 m)) => name_any (txt t.tk.text) m w' hsz h'
  rw [txt_list] at hnm
  have hr2 : 0 < tr.length := (h.tok.tail (by omega)).pos
  have hlen2 : (t :: tr).length = tr.length + 1 := rfl
  have w1a := hn_true
  have w1b := hn_false
  have w1c := hn_null
  have h0a : ∀ o2, ((w.alloc (.cells zeroX 32)).alloc o2).heap[w.heap.size]? = some (.cells zeroX 32 (0, 0)) := fun o2 => by
    rw [((Gr.refl _).alloc _).block _ (by simp)]; exact alloc_at _ _
  have HGL : Hid (∀ o1 o2 w', Gr ((w.alloc o1).alloc o2) w' → w'.cell? ⟨0, 0, none⟩ = some (.int .i64 m)) := hid (fun o1 o2 w' hg => ((hA o1 o2).trans hg).keep hm)
  clear hn hr2 hlen2
  generalize hk0 : t.tk.kind = tk at *
  generalize ht0 : t.tk.text = tx at *
  generalize hm0 : t.tk.num = tn at *
  generalize t.pos = tp at *
  clear h hat hne hh hs hS hk0 ht0 hm0 hk1
  generalize hQ : callS E tx s = Q at *
  go_enter Try.func85, Try.ntmps85
  go_wp2_with fail
  refine (word_no p ⟨#[116, 114, 117, 101]⟩ s _ (hS0 _ _) w1a).mono ?_
  rintro e w' ⟨rfl, rfl⟩
  go_wp2_with fail
  refine (word_no p ⟨#[102, 97, 108, 115, 101]⟩ s _ (hS0 _ _) w1b).mono ?_
  rintro e w' ⟨rfl, rfl⟩
  go_wp2_with fail
  refine (word_no p ⟨#[110, 117, 108, 108]⟩ s _ (hS0 _ _) w1c).mono ?_
  rintro e w' ⟨rfl, rfl⟩
  go_wp2_with fail
  refine (is4_any p ⟨#[40]⟩ s _ (hS0 _ _)).mono ?_
  rintro e w' ⟨rfl, rfl⟩
  rw [hw4]
  go_wp2_with fail
  refine (hb0 _).mono ?_
  rintro e wb ⟨rfl, hgb⟩
  rw [hbt]
  have hgz : Gr _ wb := hgb
  have hz1 := hgz.size
  simp only [World.size_alloc] at hz1
  have hKz : ∀ i, wb.cell? ⟨w.heap.size + 1, i, none⟩ = (#[.int .i64 (tk : Int), .string (txt tx), .int .i64 (tn : Int), .int .i64 (tp : Int)] : Array Value)[i]? := fun i => by
    rw [hgz.cells _ _ (by simp)]
    rw [show w.heap.size + 1 = (w.alloc (.cells zeroX 32)).heap.size from (World.size_alloc w (.cells zeroX 32)).symm]
    exact Rg.blk_cells (alloc_at _ _) i
  go_wp2_with fail
  refine (hcall _ ((hS0 _ _).keep hgz)).mono ?_
  rintro e w6 ⟨u, rfl, r, x, rfl, hx, hps6, hg6, hgd⟩
  have h06 : w6.heap[w.heap.size]? = some (.cells zeroX 32 (0, 0)) := by
    rw [hg6.get (by omega) (by omega), hgz.block _ (by simp; omega)]; exact h0a _
  have hgo6 : Go1 p w w6 := ((Go1.of (hA _ _)).block2 hgz).trans hg6
  have FI : Hid (∀ W5, Go1 w.heap.size w6 W5 → Rx p w Q (XR.val r) W5) := hid (fun W5 h5 => giveG hpw rfl (hx.mono (fun b _ hb => by have : wb.heap.size ≤ b := hb; exact ⟨by omega, by omega⟩)) hps6 hgo6 hgd h5)
  have H05 := hid h06
  clear hps6 hg6 hgo6 h06 hx hgd hcall hgz hS0 hA hA1 h0a
  unfold XR.val
  go_wp2_with (guard_target =~ wpList _ _ _ (Oper.mk _ (Op.store 32 _ _) _ _ _ _ :: _) _ _; refine st_row (ty := 32) rfl rfl w.heap.size _ rfl rfl 32 _ (H05.out) (by kernel_rfl) rfl (by kernel_rfl) ?_; intro W5 hW5 gW5 zW5)
  (try change bodyPost _ _ _ _ _ _)
  have hT := Rg.blk_cells hW5
  refine bodyPost_ret (v := XR.val r) (by simp [results, Try.results85, go_sem, XR.val, nul, hT]; try rfl) rfl ⟨_, rfl, FI.out W5 gW5⟩
set_option maxHeartbeats 8000000 in
set_option maxRecDepth 100000 in
theorem single_next (E : Pa Ex) (p : Nat) (t : Lx.Tok) (tr : List Lx.Tok) (d : Nat) (s : Ps) (hs : s = .ok (t :: tr) d) (w : World) (hS : PS p w s) (hn_true : s.is 1 ⟨#[116, 114, 117, 101]⟩ = false) (hn_false : s.is 1 ⟨#[102, 97, 108, 115, 101]⟩ = false) (hn_null : s.is 1 ⟨#[110, 117, 108, 108]⟩ = false) (hk1 : t.tk.kind = 1) (hw4 : s.is 4 ⟨#[40]⟩ = false) (hbt : built t.tk.text = false) (hnb : nameB t.tk.text = true) (htl : s.tail.is 4 ⟨#[40]⟩ = true) (hcall : ∀ w', PS p w' s → Calls Try.prog 89 #[.pointer (some ⟨p, 0, none⟩), .string (txt s.headT)] w' (Px p w' (callS E s.headT s))) : Calls Try.prog 85 #[.pointer (some ⟨p, 0, none⟩)] w (Px p w (single E s)) := by
  have hpw := hS.lt
  have hgood : s.good = true := by rw [hs]; rfl
  have hheadK : s.headK = t.tk.kind := by rw [hs]; rfl
  have hheadT : s.headT = t.tk.text := by rw [hs]; rfl
  have hheadN : s.headN = t.tk.num := by rw [hs]; rfl
  have hS2 := hS
  rw [hs] at hS2
  obtain ⟨hd, h⟩ := hS2
  obtain ⟨oa, cap, hh, hc, hat, hne⟩ := h.ex
  have r0 := Rg.blk_cells hh 0
  have r2 := Rg.blk_cells hh 2
  simp only [List.getElem?_toArray, List.getElem?_cons_zero, List.getElem?_cons_succ] at r0 r2
  obtain ⟨b, off, hoa, hb, c0, c1, c2, c3⟩ := t_get hat 0 (by simp)
  simp only [List.getElem_cons_zero, Nat.zero_mul, Nat.add_zero] at c0 c1 c2 c3
  subst hoa
  obtain ⟨n, hn⟩ : ∃ n, (t :: tr).length = n := ⟨_, rfl⟩
  have hn1 : 1 ≤ n := by rw [← hn]; simp
  rw [hn] at r0 hc
  have g2 : (0 : Int) < (n : Int) := by omega
  have hA1 := fun o => (Gr.refl w).alloc o
  have hA := fun o1 o2 => (hA1 o1).alloc o2
  have hS0 := fun o1 o2 => hS.keep (hA o1 o2)
  have eR : single E s = callS E s.headT s := by
    unfold single; rw [hheadK, hheadT]; simp only [hk1, hn_true, hn_false, hn_null, hw4, hbt, hnb, htl]; rfl
  rw [eR]
  clear eR
  rw [hheadT] at hcall
  rw [hheadT]
  have q1 : ((t.tk.kind : Int) == 2) = false := by rw [hk1]; rfl
  have q2 : ((t.tk.kind : Int) == 3) = false := by rw [hk1]; rfl
  have q3 : ((t.tk.kind : Int) == 1) = true := by rw [hk1]; rfl
  have hb0 := fun w => built_any (txt t.tk.text) w
  rw [txt_list] at hb0
  obtain ⟨m, hm⟩ := h.gl
  have hsz : (txt t.tk.text).size ≤ 140737488355328 := by rw [txt_size]; have := h.tok.text t (by simp); omega
  have hnm := fun w' (h' : w'.cell? ⟨0, 0, none⟩ = some (.int .i64 m)) => name_any (txt t.tk.text) m w' hsz h'
  rw [txt_list] at hnm
  have hr2 : 0 < tr.length := (h.tok.tail (by omega)).pos
  have hlen2 : (t :: tr).length = tr.length + 1 := rfl
  obtain ⟨t2, tr2, htr⟩ : ∃ t2 tr2, tr = t2 :: tr2 := by cases tr with
    | nil => simp at hr2
    | cons t2 tr2 => exact ⟨t2, tr2, rfl⟩
  subst htr
  obtain ⟨b', off', hoa', _, d0, d1, _, _⟩ := t_get hat 1 (by simp)
  cases hoa'
  simp only [List.getElem_cons_succ, List.getElem_cons_zero, Nat.one_mul] at d0 d1
  have w1a := hn_true
  have w1b := hn_false
  have w1c := hn_null
  have h0a : ∀ o2, ((w.alloc (.cells zeroX 32)).alloc o2).heap[w.heap.size]? = some (.cells zeroX 32 (0, 0)) := fun o2 => by
    rw [((Gr.refl _).alloc _).block _ (by simp)]; exact alloc_at _ _
  have HGL : Hid (∀ o1 o2 w', Gr ((w.alloc o1).alloc o2) w' → w'.cell? ⟨0, 0, none⟩ = some (.int .i64 m)) := hid (fun o1 o2 w' hg => ((hA o1 o2).trans hg).keep hm)
  have n2 : (1 : Int) < (n : Int) := by rw [← hn]; simp; omega
  have n3 : 2 ≤ n := by rw [← hn]; simp
  have htl2 : (t2.tk.kind == 4 && t2.tk.text == (⟨#[40]⟩ : ByteArray).data.toList) = true := by rw [hs] at htl; exact htl
  simp only [Bool.and_eq_true] at htl2
  have k2 : ((t2.tk.kind : Int) == 4) = true := by rw [show (4 : Int) = ((4 : Nat) : Int) from rfl, ibeq']; exact htl2.1
  have x2 : ((txt t2.tk.text).toList == [40]) = true := by rw [ByteArray.toList_eq, txt_list]; exact htl2.2
  clear htl2
  generalize t2.tk.kind = tk2 at *
  generalize hx2 : txt t2.tk.text = tx2 at *
  clear hx2 hr2 hlen2 hn
  generalize hk0 : t.tk.kind = tk at *
  generalize ht0 : t.tk.text = tx at *
  generalize hm0 : t.tk.num = tn at *
  generalize t.pos = tp at *
  clear h hat hne hh hs hS hk0 ht0 hm0 hk1
  generalize hQ : callS E tx s = Q at *
  go_enter Try.func85, Try.ntmps85
  go_wp2_with fail
  refine (word_no p ⟨#[116, 114, 117, 101]⟩ s _ (hS0 _ _) w1a).mono ?_
  rintro e w' ⟨rfl, rfl⟩
  go_wp2_with fail
  refine (word_no p ⟨#[102, 97, 108, 115, 101]⟩ s _ (hS0 _ _) w1b).mono ?_
  rintro e w' ⟨rfl, rfl⟩
  go_wp2_with fail
  refine (word_no p ⟨#[110, 117, 108, 108]⟩ s _ (hS0 _ _) w1c).mono ?_
  rintro e w' ⟨rfl, rfl⟩
  go_wp2_with fail
  refine (is4_any p ⟨#[40]⟩ s _ (hS0 _ _)).mono ?_
  rintro e w' ⟨rfl, rfl⟩
  rw [hw4]
  go_wp2_with fail
  refine (hb0 _).mono ?_
  rintro e wb ⟨rfl, hgb⟩
  rw [hbt]
  have hgl := HGL.out _ _ wb hgb
  have hz0 := hgb.size
  simp only [World.size_alloc] at hz0
  have hKb : ∀ i, wb.cell? ⟨w.heap.size + 1, i, none⟩ = (#[.int .i64 (tk : Int), .string (txt tx), .int .i64 (tn : Int), .int .i64 (tp : Int)] : Array Value)[i]? := fun i => by
    rw [hgb.cells _ _ (by simp)]
    rw [show w.heap.size + 1 = (w.alloc (.cells zeroX 32)).heap.size from (World.size_alloc w (.cells zeroX 32)).symm]
    exact Rg.blk_cells (alloc_at _ _) i
  go_wp2_with fail
  refine (hnm _ hgl).mono ?_
  rintro e wn ⟨rfl, hgn⟩
  rw [hnb]
  have hgbn : Gr _ wn := Gr.trans hgb hgn
  have r0n := ((hA _ _).trans hgbn).keep r0
  have d0n := ((hA _ _).trans hgbn).keep d0
  have d1n := ((hA _ _).trans hgbn).keep d1
  have hgz : Gr _ wn := hgbn
  have hz1 := hgz.size
  simp only [World.size_alloc] at hz1
  have hKz : ∀ i, wn.cell? ⟨w.heap.size + 1, i, none⟩ = (#[.int .i64 (tk : Int), .string (txt tx), .int .i64 (tn : Int), .int .i64 (tp : Int)] : Array Value)[i]? := fun i => by
    rw [hgz.cells _ _ (by simp)]
    rw [show w.heap.size + 1 = (w.alloc (.cells zeroX 32)).heap.size from (World.size_alloc w (.cells zeroX 32)).symm]
    exact Rg.blk_cells (alloc_at _ _) i
  go_wp2_with fail
  refine (hcall _ ((hS0 _ _).keep hgz)).mono ?_
  rintro e w6 ⟨u, rfl, r, x, rfl, hx, hps6, hg6, hgd⟩
  have h06 : w6.heap[w.heap.size]? = some (.cells zeroX 32 (0, 0)) := by
    rw [hg6.get (by omega) (by omega), hgz.block _ (by simp; omega)]; exact h0a _
  have hgo6 : Go1 p w w6 := ((Go1.of (hA _ _)).block2 hgz).trans hg6
  have FI : Hid (∀ W5, Go1 w.heap.size w6 W5 → Rx p w Q (XR.val r) W5) := hid (fun W5 h5 => giveG hpw rfl (hx.mono (fun b _ hb => by have : wn.heap.size ≤ b := hb; exact ⟨by omega, by omega⟩)) hps6 hgo6 hgd h5)
  have H05 := hid h06
  clear hps6 hg6 hgo6 h06 hx hgd hcall hgz hS0 hA hA1 h0a
  unfold XR.val
  go_wp2_with (guard_target =~ wpList _ _ _ (Oper.mk _ (Op.store 32 _ _) _ _ _ _ :: _) _ _; refine st_row (ty := 32) rfl rfl w.heap.size _ rfl rfl 32 _ (H05.out) (by kernel_rfl) rfl (by kernel_rfl) ?_; intro W5 hW5 gW5 zW5)
  (try change bodyPost _ _ _ _ _ _)
  have hT := Rg.blk_cells hW5
  refine bodyPost_ret (v := XR.val r) (by simp [results, Try.results85, go_sem, XR.val, nul, hT]; try rfl) rfl ⟨_, rfl, FI.out W5 gW5⟩
set_option maxHeartbeats 8000000 in
set_option maxRecDepth 100000 in
theorem single_nokind (E : Pa Ex) (p : Nat) (t : Lx.Tok) (tr : List Lx.Tok) (d : Nat) (s : Ps) (hs : s = .ok (t :: tr) d) (w : World) (hS : PS p w s) (hn_true : s.is 1 ⟨#[116, 114, 117, 101]⟩ = false) (hn_false : s.is 1 ⟨#[102, 97, 108, 115, 101]⟩ = false) (hn_null : s.is 1 ⟨#[110, 117, 108, 108]⟩ = false)  (hw4 : s.is 4 ⟨#[40]⟩ = false) (hk2 : t.tk.kind ≠ 2) (hk3 : t.tk.kind ≠ 3) (hk1 : t.tk.kind ≠ 1) : Calls Try.prog 85 #[.pointer (some ⟨p, 0, none⟩)] w (Px p w (single E s)) := by
  have hpw := hS.lt
  have hgood : s.good = true := by rw [hs]; rfl
  have hheadK : s.headK = t.tk.kind := by rw [hs]; rfl
  have hheadT : s.headT = t.tk.text := by rw [hs]; rfl
  have hheadN : s.headN = t.tk.num := by rw [hs]; rfl
  have hS2 := hS
  rw [hs] at hS2
  obtain ⟨hd, h⟩ := hS2
  obtain ⟨oa, cap, hh, hc, hat, hne⟩ := h.ex
  have r0 := Rg.blk_cells hh 0
  have r2 := Rg.blk_cells hh 2
  simp only [List.getElem?_toArray, List.getElem?_cons_zero, List.getElem?_cons_succ] at r0 r2
  obtain ⟨b, off, hoa, hb, c0, c1, c2, c3⟩ := t_get hat 0 (by simp)
  simp only [List.getElem_cons_zero, Nat.zero_mul, Nat.add_zero] at c0 c1 c2 c3
  subst hoa
  obtain ⟨n, hn⟩ : ∃ n, (t :: tr).length = n := ⟨_, rfl⟩
  have hn1 : 1 ≤ n := by rw [← hn]; simp
  rw [hn] at r0 hc
  have g2 : (0 : Int) < (n : Int) := by omega
  have hA1 := fun o => (Gr.refl w).alloc o
  have hA := fun o1 o2 => (hA1 o1).alloc o2
  have hS0 := fun o1 o2 => hS.keep (hA o1 o2)
  have eR : single E s = nameS s := by
    have e1 : (t.tk.kind == 1) = false := by simpa using hk1
    have e2 : (t.tk.kind == 2) = false := by simpa using hk2
    have e3 : (t.tk.kind == 3) = false := by simpa using hk3
    unfold single; rw [hheadK, e1, e2, e3, hn_true, hn_false, hn_null, hw4]; rfl
  rw [eR]
  clear eR
  have q1 : ((t.tk.kind : Int) == 2) = false := by rw [show (2 : Int) = ((2 : Nat) : Int) from rfl, ibeq']; simpa using hk2
  have q2 : ((t.tk.kind : Int) == 3) = false := by rw [show (3 : Int) = ((3 : Nat) : Int) from rfl, ibeq']; simpa using hk3
  have q3 : ((t.tk.kind : Int) == 1) = false := by rw [show (1 : Int) = ((1 : Nat) : Int) from rfl, ibeq']; simpa using hk1
  have w1a := hn_true
  have w1b := hn_false
  have w1c := hn_null
  have h0a : ∀ o2, ((w.alloc (.cells zeroX 32)).alloc o2).heap[w.heap.size]? = some (.cells zeroX 32 (0, 0)) := fun o2 => by
    rw [((Gr.refl _).alloc _).block _ (by simp)]; exact alloc_at _ _
  generalize hk0 : t.tk.kind = tk at *
  generalize ht0 : t.tk.text = tx at *
  generalize hm0 : t.tk.num = tn at *
  generalize t.pos = tp at *
  clear h hat hne hh hn hs hS hk0 ht0 hm0
  go_enter Try.func85, Try.ntmps85
  go_wp2_with fail
  refine (word_no p ⟨#[116, 114, 117, 101]⟩ s _ (hS0 _ _) w1a).mono ?_
  rintro e w' ⟨rfl, rfl⟩
  go_wp2_with fail
  refine (word_no p ⟨#[102, 97, 108, 115, 101]⟩ s _ (hS0 _ _) w1b).mono ?_
  rintro e w' ⟨rfl, rfl⟩
  go_wp2_with fail
  refine (word_no p ⟨#[110, 117, 108, 108]⟩ s _ (hS0 _ _) w1c).mono ?_
  rintro e w' ⟨rfl, rfl⟩
  go_wp2_with fail
  refine (is4_any p ⟨#[40]⟩ s _ (hS0 _ _)).mono ?_
  rintro e w' ⟨rfl, rfl⟩
  rw [hw4]
  have hps0 := hS0
  have hgo0 := fun o1 o2 => Go1.of (p := p) (hA o1 o2)
  go_wp2_with fail
  refine (pname_any p s _ (hS0 _ _)).mono ?_
  rintro e w5 ⟨rfl, hps5, hg5⟩
  have z5 := hg5.size
  simp only [World.size_alloc] at z5
  have h05 : w5.heap[w.heap.size]? = some (.cells zeroX 32 (0, 0)) := by
    rw [hg5.get (by simp; omega) (by omega)]; exact h0a _
  have hgo5 : Go1 p w w5 := (Go1.of (hA _ _)).trans hg5
  obtain ⟨n1, hn1'⟩ : ∃ n1, s.name.1 = n1 := ⟨_, rfl⟩
  obtain ⟨s5, hs5⟩ : ∃ s5, s.name.2 = s5 := ⟨_, rfl⟩
  obtain ⟨R, hR0⟩ : ∃ R, nameS s = R := ⟨_, rfl⟩
  have HR : Hid (R = (if s5.is 4 ⟨#[46]⟩ then (let m := s5.step.name; (.mk { op := 2, tab := n1, name := m.1 } [], m.2)) else (.mk { op := 2, name := n1 } [], s5))) := hid (by rw [← hR0, ← hs5, ← hn1']; rfl)
  rw [hn1']
  rw [hs5] at hps5
  clear hg5 hS0 hA hA1 h0a hn1' hs5
  go_wp2_with fail
  refine (sign_any' p ⟨#[46]⟩ s5 _ hps5).mono ?_
  rintro e w6 ⟨rfl, hps6, hg6⟩
  have z6 := hg6.size
  have h06 : w6.heap[w.heap.size]? = some (.cells zeroX 32 (0, 0)) := by
    rw [hg6.get (by omega) (by omega)]; exact h05
  have hgo6 := hgo5.trans hg6
  clear hg6 hps5 hgo5 h05
  cases hB : s5.is 4 ⟨#[46]⟩ with
  | true =>
    rw [show (s5.may 4 ⟨#[46]⟩).2 = s5.step by simp [Ps.may, hB]] at hps6
    go_wp2_with fail
    refine (pname_any p s5.step _ hps6).mono ?_
    rintro e w7 ⟨rfl, hps7, hg7⟩
    have FI : Hid (∀ W5, Go1 w.heap.size w7 W5 → Rx p w (nameS s) (XR.val ⟨{ op := 2, tab := n1, name := s5.step.name.1 }, none, 0, 0⟩) W5) := hid (fun W5 h5 => by
      rw [hR0, HR.out, hB]
      exact giveG (R := (.mk { op := 2, tab := n1, name := s5.step.name.1 } [], s5.step.name.2)) hpw rfl (formZ (S := fun b => w.heap.size ≤ b ∧ b ≠ w.heap.size)) hps7 (hgo6.trans hg7) (fun _ => rfl) h5)
    have H05 : Hid (w7.heap[w.heap.size]? = some (.cells zeroX 32 (0, 0))) := hid (by rw [hg7.get (by omega) (by omega)]; exact h06)
    clear hps6 hps7 hg7 hgo6 h06 HR hR0
    generalize s5.step.name.1 = n2 at *
    go_wp2_with (guard_target =~ wpList _ _ _ (Oper.mk _ (Op.store 32 _ _) _ _ _ _ :: _) _ _; refine st_row (ty := 32) rfl rfl w.heap.size _ rfl rfl 32 _ (H05.out) (by kernel_rfl) rfl (by kernel_rfl) ?_; intro W5 hW5 gW5 zW5)
    (try change bodyPost _ _ _ _ _ _)
    have hT := Rg.blk_cells hW5
    refine bodyPost_ret (v := XR.val ⟨{ op := 2, tab := n1, name := n2 }, none, 0, 0⟩) (by simp [results, Try.results85, go_sem, XR.val, nul, hT]; try rfl) rfl ⟨_, rfl, FI.out W5 gW5⟩
  | false =>
    rw [show (s5.may 4 ⟨#[46]⟩).2 = s5 by simp [Ps.may, hB]] at hps6
    have FI : Hid (∀ W5, Go1 w.heap.size w6 W5 → Rx p w (nameS s) (XR.val ⟨{ op := 2, name := n1 }, none, 0, 0⟩) W5) := hid (fun W5 h5 => by
      rw [hR0, HR.out, hB]
      exact giveG (R := (.mk { op := 2, name := n1 } [], s5)) hpw rfl (formZ (S := fun b => w.heap.size ≤ b ∧ b ≠ w.heap.size)) hps6 hgo6 (fun _ => rfl) h5)
    have H05 := hid h06
    clear hps6 hgo6 h06 HR hR0
    go_wp2_with (guard_target =~ wpList _ _ _ (Oper.mk _ (Op.store 32 _ _) _ _ _ _ :: _) _ _; refine st_row (ty := 32) rfl rfl w.heap.size _ rfl rfl 32 _ (H05.out) (by kernel_rfl) rfl (by kernel_rfl) ?_; intro W5 hW5 gW5 zW5)
    (try change bodyPost _ _ _ _ _ _)
    have hT := Rg.blk_cells hW5
    refine bodyPost_ret (v := XR.val ⟨{ op := 2, name := n1 }, none, 0, 0⟩) (by simp [results, Try.results85, go_sem, XR.val, nul, hT]; try rfl) rfl ⟨_, rfl, FI.out W5 gW5⟩
set_option maxHeartbeats 8000000 in
set_option maxRecDepth 100000 in
theorem single_noname (E : Pa Ex) (p : Nat) (t : Lx.Tok) (tr : List Lx.Tok) (d : Nat) (s : Ps) (hs : s = .ok (t :: tr) d) (w : World) (hS : PS p w s) (hn_true : s.is 1 ⟨#[116, 114, 117, 101]⟩ = false) (hn_false : s.is 1 ⟨#[102, 97, 108, 115, 101]⟩ = false) (hn_null : s.is 1 ⟨#[110, 117, 108, 108]⟩ = false)  (hw4 : s.is 4 ⟨#[40]⟩ = false) (hk1 : t.tk.kind = 1) (hbt : built t.tk.text = false) (hnb : nameB t.tk.text = false) : Calls Try.prog 85 #[.pointer (some ⟨p, 0, none⟩)] w (Px p w (single E s)) := by
  have hpw := hS.lt
  have hgood : s.good = true := by rw [hs]; rfl
  have hheadK : s.headK = t.tk.kind := by rw [hs]; rfl
  have hheadT : s.headT = t.tk.text := by rw [hs]; rfl
  have hheadN : s.headN = t.tk.num := by rw [hs]; rfl
  have hS2 := hS
  rw [hs] at hS2
  obtain ⟨hd, h⟩ := hS2
  obtain ⟨oa, cap, hh, hc, hat, hne⟩ := h.ex
  have r0 := Rg.blk_cells hh 0
  have r2 := Rg.blk_cells hh 2
  simp only [List.getElem?_toArray, List.getElem?_cons_zero, List.getElem?_cons_succ] at r0 r2
  obtain ⟨b, off, hoa, hb, c0, c1, c2, c3⟩ := t_get hat 0 (by simp)
  simp only [List.getElem_cons_zero, Nat.zero_mul, Nat.add_zero] at c0 c1 c2 c3
  subst hoa
  obtain ⟨n, hn⟩ : ∃ n, (t :: tr).length = n := ⟨_, rfl⟩
  have hn1 : 1 ≤ n := by rw [← hn]; simp
  rw [hn] at r0 hc
  have g2 : (0 : Int) < (n : Int) := by omega
  have hA1 := fun o => (Gr.refl w).alloc o
  have hA := fun o1 o2 => (hA1 o1).alloc o2
  have hS0 := fun o1 o2 => hS.keep (hA o1 o2)
  have eR : single E s = nameS s := by
    unfold single; rw [hheadK, hheadT]; simp only [hk1, hn_true, hn_false, hn_null, hw4, hbt, hnb]; rfl
  rw [eR]
  clear eR
  have q1 : ((t.tk.kind : Int) == 2) = false := by rw [hk1]; rfl
  have q2 : ((t.tk.kind : Int) == 3) = false := by rw [hk1]; rfl
  have q3 : ((t.tk.kind : Int) == 1) = true := by rw [hk1]; rfl
  have hb0 := fun w => built_any (txt t.tk.text) w
  rw [txt_list] at hb0
  obtain ⟨m, hm⟩ := h.gl
  have hsz : (txt t.tk.text).size ≤ 140737488355328 := by rw [txt_size]; have := h.tok.text t (by simp); omega
  have hnm := fun w' (h' : w'.cell? ⟨0, 0, none⟩ = some (.int .i64 m)) => name_any (txt t.tk.text) m w' hsz h'
  rw [txt_list] at hnm
  have hr2 : 0 < tr.length := (h.tok.tail (by omega)).pos
  have hlen2 : (t :: tr).length = tr.length + 1 := rfl
  have w1a := hn_true
  have w1b := hn_false
  have w1c := hn_null
  have h0a : ∀ o2, ((w.alloc (.cells zeroX 32)).alloc o2).heap[w.heap.size]? = some (.cells zeroX 32 (0, 0)) := fun o2 => by
    rw [((Gr.refl _).alloc _).block _ (by simp)]; exact alloc_at _ _
  have HGL : Hid (∀ o1 o2 w', Gr ((w.alloc o1).alloc o2) w' → w'.cell? ⟨0, 0, none⟩ = some (.int .i64 m)) := hid (fun o1 o2 w' hg => ((hA o1 o2).trans hg).keep hm)
  clear hn hr2 hlen2
  generalize hk0 : t.tk.kind = tk at *
  generalize ht0 : t.tk.text = tx at *
  generalize hm0 : t.tk.num = tn at *
  generalize t.pos = tp at *
  clear h hat hne hh hs hS hk0 ht0 hm0 hk1
  go_enter Try.func85, Try.ntmps85
  go_wp2_with fail
  refine (word_no p ⟨#[116, 114, 117, 101]⟩ s _ (hS0 _ _) w1a).mono ?_
  rintro e w' ⟨rfl, rfl⟩
  go_wp2_with fail
  refine (word_no p ⟨#[102, 97, 108, 115, 101]⟩ s _ (hS0 _ _) w1b).mono ?_
  rintro e w' ⟨rfl, rfl⟩
  go_wp2_with fail
  refine (word_no p ⟨#[110, 117, 108, 108]⟩ s _ (hS0 _ _) w1c).mono ?_
  rintro e w' ⟨rfl, rfl⟩
  go_wp2_with fail
  refine (is4_any p ⟨#[40]⟩ s _ (hS0 _ _)).mono ?_
  rintro e w' ⟨rfl, rfl⟩
  rw [hw4]
  go_wp2_with fail
  refine (hb0 _).mono ?_
  rintro e wb ⟨rfl, hgb⟩
  rw [hbt]
  have hgl := HGL.out _ _ wb hgb
  have hz0 := hgb.size
  simp only [World.size_alloc] at hz0
  have hKb : ∀ i, wb.cell? ⟨w.heap.size + 1, i, none⟩ = (#[.int .i64 (tk : Int), .string (txt tx), .int .i64 (tn : Int), .int .i64 (tp : Int)] : Array Value)[i]? := fun i => by
    rw [hgb.cells _ _ (by simp)]
    rw [show w.heap.size + 1 = (w.alloc (.cells zeroX 32)).heap.size from (World.size_alloc w (.cells zeroX 32)).symm]
    exact Rg.blk_cells (alloc_at _ _) i
  go_wp2_with fail
  refine (hnm _ hgl).mono ?_
  rintro e wn ⟨rfl, hgn⟩
  rw [hnb]
  have hgbn : Gr _ wn := Gr.trans hgb hgn
  have hgz : Gr _ wn := hgbn
  have hz1 := hgz.size
  simp only [World.size_alloc] at hz1
  go_wp2_with fail
  refine (pname_any p s _ ((hS0 _ _).keep hgz)).mono ?_
  rintro e w5 ⟨rfl, hps5, hg5⟩
  have z5 := hg5.size
  have h05 : w5.heap[w.heap.size]? = some (.cells zeroX 32 (0, 0)) := by
    rw [hg5.get (by omega) (by omega), hgz.block _ (by simp; omega)]; exact h0a _
  have hgo5 : Go1 p w w5 := ((Go1.of (hA _ _)).block2 hgz).trans hg5
  obtain ⟨n1, hn1'⟩ : ∃ n1, s.name.1 = n1 := ⟨_, rfl⟩
  obtain ⟨s5, hs5⟩ : ∃ s5, s.name.2 = s5 := ⟨_, rfl⟩
  obtain ⟨R, hR0⟩ : ∃ R, nameS s = R := ⟨_, rfl⟩
  have HR : Hid (R = (if s5.is 4 ⟨#[46]⟩ then (let m := s5.step.name; (.mk { op := 2, tab := n1, name := m.1 } [], m.2)) else (.mk { op := 2, name := n1 } [], s5))) := hid (by rw [← hR0, ← hs5, ← hn1']; rfl)
  rw [hn1']
  rw [hs5] at hps5
  clear hg5 hS0 hA hA1 h0a hn1' hs5 hgz
  go_wp2_with fail
  refine (sign_any' p ⟨#[46]⟩ s5 _ hps5).mono ?_
  rintro e w6 ⟨rfl, hps6, hg6⟩
  have z6 := hg6.size
  have h06 : w6.heap[w.heap.size]? = some (.cells zeroX 32 (0, 0)) := by
    rw [hg6.get (by omega) (by omega)]; exact h05
  have hgo6 := hgo5.trans hg6
  clear hg6 hps5 hgo5 h05
  cases hB : s5.is 4 ⟨#[46]⟩ with
  | true =>
    rw [show (s5.may 4 ⟨#[46]⟩).2 = s5.step by simp [Ps.may, hB]] at hps6
    go_wp2_with fail
    refine (pname_any p s5.step _ hps6).mono ?_
    rintro e w7 ⟨rfl, hps7, hg7⟩
    have FI : Hid (∀ W5, Go1 w.heap.size w7 W5 → Rx p w (nameS s) (XR.val ⟨{ op := 2, tab := n1, name := s5.step.name.1 }, none, 0, 0⟩) W5) := hid (fun W5 h5 => by
      rw [hR0, HR.out, hB]
      exact giveG (R := (.mk { op := 2, tab := n1, name := s5.step.name.1 } [], s5.step.name.2)) hpw rfl (formZ (S := fun b => w.heap.size ≤ b ∧ b ≠ w.heap.size)) hps7 (hgo6.trans hg7) (fun _ => rfl) h5)
    have H05 : Hid (w7.heap[w.heap.size]? = some (.cells zeroX 32 (0, 0))) := hid (by rw [hg7.get (by omega) (by omega)]; exact h06)
    clear hps6 hps7 hg7 hgo6 h06 HR hR0
    generalize s5.step.name.1 = n2 at *
    go_wp2_with (guard_target =~ wpList _ _ _ (Oper.mk _ (Op.store 32 _ _) _ _ _ _ :: _) _ _; refine st_row (ty := 32) rfl rfl w.heap.size _ rfl rfl 32 _ (H05.out) (by kernel_rfl) rfl (by kernel_rfl) ?_; intro W5 hW5 gW5 zW5)
    (try change bodyPost _ _ _ _ _ _)
    have hT := Rg.blk_cells hW5
    refine bodyPost_ret (v := XR.val ⟨{ op := 2, tab := n1, name := n2 }, none, 0, 0⟩) (by simp [results, Try.results85, go_sem, XR.val, nul, hT]; try rfl) rfl ⟨_, rfl, FI.out W5 gW5⟩
  | false =>
    rw [show (s5.may 4 ⟨#[46]⟩).2 = s5 by simp [Ps.may, hB]] at hps6
    have FI : Hid (∀ W5, Go1 w.heap.size w6 W5 → Rx p w (nameS s) (XR.val ⟨{ op := 2, name := n1 }, none, 0, 0⟩) W5) := hid (fun W5 h5 => by
      rw [hR0, HR.out, hB]
      exact giveG (R := (.mk { op := 2, name := n1 } [], s5)) hpw rfl (formZ (S := fun b => w.heap.size ≤ b ∧ b ≠ w.heap.size)) hps6 hgo6 (fun _ => rfl) h5)
    have H05 := hid h06
    clear hps6 hgo6 h06 HR hR0
    go_wp2_with (guard_target =~ wpList _ _ _ (Oper.mk _ (Op.store 32 _ _) _ _ _ _ :: _) _ _; refine st_row (ty := 32) rfl rfl w.heap.size _ rfl rfl 32 _ (H05.out) (by kernel_rfl) rfl (by kernel_rfl) ?_; intro W5 hW5 gW5 zW5)
    (try change bodyPost _ _ _ _ _ _)
    have hT := Rg.blk_cells hW5
    refine bodyPost_ret (v := XR.val ⟨{ op := 2, name := n1 }, none, 0, 0⟩) (by simp [results, Try.results85, go_sem, XR.val, nul, hT]; try rfl) rfl ⟨_, rfl, FI.out W5 gW5⟩
set_option maxHeartbeats 8000000 in
set_option maxRecDepth 100000 in
theorem single_nextk (E : Pa Ex) (p : Nat) (t : Lx.Tok) (tr : List Lx.Tok) (d : Nat) (s : Ps) (hs : s = .ok (t :: tr) d) (w : World) (hS : PS p w s) (hn_true : s.is 1 ⟨#[116, 114, 117, 101]⟩ = false) (hn_false : s.is 1 ⟨#[102, 97, 108, 115, 101]⟩ = false) (hn_null : s.is 1 ⟨#[110, 117, 108, 108]⟩ = false)  (hw4 : s.is 4 ⟨#[40]⟩ = false) (hk1 : t.tk.kind = 1) (hbt : built t.tk.text = false) (hnb : nameB t.tk.text = true) (htl : s.tail.is 4 ⟨#[40]⟩ = false) (hk4 : (s.tail.headK == 4) = false) : Calls Try.prog 85 #[.pointer (some ⟨p, 0, none⟩)] w (Px p w (single E s)) := by
  have hpw := hS.lt
  have hgood : s.good = true := by rw [hs]; rfl
  have hheadK : s.headK = t.tk.kind := by rw [hs]; rfl
  have hheadT : s.headT = t.tk.text := by rw [hs]; rfl
  have hheadN : s.headN = t.tk.num := by rw [hs]; rfl
  have hS2 := hS
  rw [hs] at hS2
  obtain ⟨hd, h⟩ := hS2
  obtain ⟨oa, cap, hh, hc, hat, hne⟩ := h.ex
  have r0 := Rg.blk_cells hh 0
  have r2 := Rg.blk_cells hh 2
  simp only [List.getElem?_toArray, List.getElem?_cons_zero, List.getElem?_cons_succ] at r0 r2
  obtain ⟨b, off, hoa, hb, c0, c1, c2, c3⟩ := t_get hat 0 (by simp)
  simp only [List.getElem_cons_zero, Nat.zero_mul, Nat.add_zero] at c0 c1 c2 c3
  subst hoa
  obtain ⟨n, hn⟩ : ∃ n, (t :: tr).length = n := ⟨_, rfl⟩
  have hn1 : 1 ≤ n := by rw [← hn]; simp
  rw [hn] at r0 hc
  have g2 : (0 : Int) < (n : Int) := by omega
  have hA1 := fun o => (Gr.refl w).alloc o
  have hA := fun o1 o2 => (hA1 o1).alloc o2
  have hS0 := fun o1 o2 => hS.keep (hA o1 o2)
  have eR : single E s = nameS s := by
    unfold single; rw [hheadK, hheadT]; simp only [hk1, hn_true, hn_false, hn_null, hw4, hbt, hnb, htl]; rfl
  rw [eR]
  clear eR
  have q1 : ((t.tk.kind : Int) == 2) = false := by rw [hk1]; rfl
  have q2 : ((t.tk.kind : Int) == 3) = false := by rw [hk1]; rfl
  have q3 : ((t.tk.kind : Int) == 1) = true := by rw [hk1]; rfl
  have hb0 := fun w => built_any (txt t.tk.text) w
  rw [txt_list] at hb0
  obtain ⟨m, hm⟩ := h.gl
  have hsz : (txt t.tk.text).size ≤ 140737488355328 := by rw [txt_size]; have := h.tok.text t (by simp); omega
  have hnm := fun w' (h' : w'.cell? ⟨0, 0, none⟩ = some (.int .i64 m)) => name_any (txt t.tk.text) m w' hsz h'
  rw [txt_list] at hnm
  have hr2 : 0 < tr.length := (h.tok.tail (by omega)).pos
  have hlen2 : (t :: tr).length = tr.length + 1 := rfl
  obtain ⟨t2, tr2, htr⟩ : ∃ t2 tr2, tr = t2 :: tr2 := by cases tr with
    | nil => simp at hr2
    | cons t2 tr2 => exact ⟨t2, tr2, rfl⟩
  subst htr
  obtain ⟨b', off', hoa', _, d0, d1, _, _⟩ := t_get hat 1 (by simp)
  cases hoa'
  simp only [List.getElem_cons_succ, List.getElem_cons_zero, Nat.one_mul] at d0 d1
  have w1a := hn_true
  have w1b := hn_false
  have w1c := hn_null
  have h0a : ∀ o2, ((w.alloc (.cells zeroX 32)).alloc o2).heap[w.heap.size]? = some (.cells zeroX 32 (0, 0)) := fun o2 => by
    rw [((Gr.refl _).alloc _).block _ (by simp)]; exact alloc_at _ _
  have HGL : Hid (∀ o1 o2 w', Gr ((w.alloc o1).alloc o2) w' → w'.cell? ⟨0, 0, none⟩ = some (.int .i64 m)) := hid (fun o1 o2 w' hg => ((hA o1 o2).trans hg).keep hm)
  have n2 : (1 : Int) < (n : Int) := by rw [← hn]; simp; omega
  have n3 : 2 ≤ n := by rw [← hn]; simp
  have k2 : ((t2.tk.kind : Int) == 4) = false := by rw [show (4 : Int) = ((4 : Nat) : Int) from rfl, ibeq']; rw [hs] at hk4; exact hk4
  generalize t2.tk.kind = tk2 at *
  generalize hx2 : txt t2.tk.text = tx2 at *
  clear hx2 hr2 hlen2 hn
  generalize hk0 : t.tk.kind = tk at *
  generalize ht0 : t.tk.text = tx at *
  generalize hm0 : t.tk.num = tn at *
  generalize t.pos = tp at *
  clear h hat hne hh hs hS hk0 ht0 hm0 hk1
  go_enter Try.func85, Try.ntmps85
  go_wp2_with fail
  refine (word_no p ⟨#[116, 114, 117, 101]⟩ s _ (hS0 _ _) w1a).mono ?_
  rintro e w' ⟨rfl, rfl⟩
  go_wp2_with fail
  refine (word_no p ⟨#[102, 97, 108, 115, 101]⟩ s _ (hS0 _ _) w1b).mono ?_
  rintro e w' ⟨rfl, rfl⟩
  go_wp2_with fail
  refine (word_no p ⟨#[110, 117, 108, 108]⟩ s _ (hS0 _ _) w1c).mono ?_
  rintro e w' ⟨rfl, rfl⟩
  go_wp2_with fail
  refine (is4_any p ⟨#[40]⟩ s _ (hS0 _ _)).mono ?_
  rintro e w' ⟨rfl, rfl⟩
  rw [hw4]
  go_wp2_with fail
  refine (hb0 _).mono ?_
  rintro e wb ⟨rfl, hgb⟩
  rw [hbt]
  have hgl := HGL.out _ _ wb hgb
  have hz0 := hgb.size
  simp only [World.size_alloc] at hz0
  have hKb : ∀ i, wb.cell? ⟨w.heap.size + 1, i, none⟩ = (#[.int .i64 (tk : Int), .string (txt tx), .int .i64 (tn : Int), .int .i64 (tp : Int)] : Array Value)[i]? := fun i => by
    rw [hgb.cells _ _ (by simp)]
    rw [show w.heap.size + 1 = (w.alloc (.cells zeroX 32)).heap.size from (World.size_alloc w (.cells zeroX 32)).symm]
    exact Rg.blk_cells (alloc_at _ _) i
  go_wp2_with fail
  refine (hnm _ hgl).mono ?_
  rintro e wn ⟨rfl, hgn⟩
  rw [hnb]
  have hgbn : Gr _ wn := Gr.trans hgb hgn
  have r0n := ((hA _ _).trans hgbn).keep r0
  have d0n := ((hA _ _).trans hgbn).keep d0
  have d1n := ((hA _ _).trans hgbn).keep d1
  have hgz : Gr _ wn := hgbn
  have hz1 := hgz.size
  simp only [World.size_alloc] at hz1
  go_wp2_with fail
  refine (pname_any p s _ ((hS0 _ _).keep hgz)).mono ?_
  rintro e w5 ⟨rfl, hps5, hg5⟩
  have z5 := hg5.size
  have h05 : w5.heap[w.heap.size]? = some (.cells zeroX 32 (0, 0)) := by
    rw [hg5.get (by omega) (by omega), hgz.block _ (by simp; omega)]; exact h0a _
  have hgo5 : Go1 p w w5 := ((Go1.of (hA _ _)).block2 hgz).trans hg5
  obtain ⟨n1, hn1'⟩ : ∃ n1, s.name.1 = n1 := ⟨_, rfl⟩
  obtain ⟨s5, hs5⟩ : ∃ s5, s.name.2 = s5 := ⟨_, rfl⟩
  obtain ⟨R, hR0⟩ : ∃ R, nameS s = R := ⟨_, rfl⟩
  have HR : Hid (R = (if s5.is 4 ⟨#[46]⟩ then (let m := s5.step.name; (.mk { op := 2, tab := n1, name := m.1 } [], m.2)) else (.mk { op := 2, name := n1 } [], s5))) := hid (by rw [← hR0, ← hs5, ← hn1']; rfl)
  rw [hn1']
  rw [hs5] at hps5
  clear hg5 hS0 hA hA1 h0a hn1' hs5 hgz
  go_wp2_with fail
  refine (sign_any' p ⟨#[46]⟩ s5 _ hps5).mono ?_
  rintro e w6 ⟨rfl, hps6, hg6⟩
  have z6 := hg6.size
  have h06 : w6.heap[w.heap.size]? = some (.cells zeroX 32 (0, 0)) := by
    rw [hg6.get (by omega) (by omega)]; exact h05
  have hgo6 := hgo5.trans hg6
  clear hg6 hps5 hgo5 h05
  cases hB : s5.is 4 ⟨#[46]⟩ with
  | true =>
    rw [show (s5.may 4 ⟨#[46]⟩).2 = s5.step by simp [Ps.may, hB]] at hps6
    go_wp2_with fail
    refine (pname_any p s5.step _ hps6).mono ?_
    rintro e w7 ⟨rfl, hps7, hg7⟩
    have FI : Hid (∀ W5, Go1 w.heap.size w7 W5 → Rx p w (nameS s) (XR.val ⟨{ op := 2, tab := n1, name := s5.step.name.1 }, none, 0, 0⟩) W5) := hid (fun W5 h5 => by
      rw [hR0, HR.out, hB]
      exact giveG (R := (.mk { op := 2, tab := n1, name := s5.step.name.1 } [], s5.step.name.2)) hpw rfl (formZ (S := fun b => w.heap.size ≤ b ∧ b ≠ w.heap.size)) hps7 (hgo6.trans hg7) (fun _ => rfl) h5)
    have H05 : Hid (w7.heap[w.heap.size]? = some (.cells zeroX 32 (0, 0))) := hid (by rw [hg7.get (by omega) (by omega)]; exact h06)
    clear hps6 hps7 hg7 hgo6 h06 HR hR0
    generalize s5.step.name.1 = n2 at *
    go_wp2_with (guard_target =~ wpList _ _ _ (Oper.mk _ (Op.store 32 _ _) _ _ _ _ :: _) _ _; refine st_row (ty := 32) rfl rfl w.heap.size _ rfl rfl 32 _ (H05.out) (by kernel_rfl) rfl (by kernel_rfl) ?_; intro W5 hW5 gW5 zW5)
    (try change bodyPost _ _ _ _ _ _)
    have hT := Rg.blk_cells hW5
    refine bodyPost_ret (v := XR.val ⟨{ op := 2, tab := n1, name := n2 }, none, 0, 0⟩) (by simp [results, Try.results85, go_sem, XR.val, nul, hT]; try rfl) rfl ⟨_, rfl, FI.out W5 gW5⟩
  | false =>
    rw [show (s5.may 4 ⟨#[46]⟩).2 = s5 by simp [Ps.may, hB]] at hps6
    have FI : Hid (∀ W5, Go1 w.heap.size w6 W5 → Rx p w (nameS s) (XR.val ⟨{ op := 2, name := n1 }, none, 0, 0⟩) W5) := hid (fun W5 h5 => by
      rw [hR0, HR.out, hB]
      exact giveG (R := (.mk { op := 2, name := n1 } [], s5)) hpw rfl (formZ (S := fun b => w.heap.size ≤ b ∧ b ≠ w.heap.size)) hps6 hgo6 (fun _ => rfl) h5)
    have H05 := hid h06
    clear hps6 hgo6 h06 HR hR0
    go_wp2_with (guard_target =~ wpList _ _ _ (Oper.mk _ (Op.store 32 _ _) _ _ _ _ :: _) _ _; refine st_row (ty := 32) rfl rfl w.heap.size _ rfl rfl 32 _ (H05.out) (by kernel_rfl) rfl (by kernel_rfl) ?_; intro W5 hW5 gW5 zW5)
    (try change bodyPost _ _ _ _ _ _)
    have hT := Rg.blk_cells hW5
    refine bodyPost_ret (v := XR.val ⟨{ op := 2, name := n1 }, none, 0, 0⟩) (by simp [results, Try.results85, go_sem, XR.val, nul, hT]; try rfl) rfl ⟨_, rfl, FI.out W5 gW5⟩
set_option maxHeartbeats 8000000 in
set_option maxRecDepth 100000 in
theorem single_nextt (E : Pa Ex) (p : Nat) (t : Lx.Tok) (tr : List Lx.Tok) (d : Nat) (s : Ps) (hs : s = .ok (t :: tr) d) (w : World) (hS : PS p w s) (hn_true : s.is 1 ⟨#[116, 114, 117, 101]⟩ = false) (hn_false : s.is 1 ⟨#[102, 97, 108, 115, 101]⟩ = false) (hn_null : s.is 1 ⟨#[110, 117, 108, 108]⟩ = false)  (hw4 : s.is 4 ⟨#[40]⟩ = false) (hk1 : t.tk.kind = 1) (hbt : built t.tk.text = false) (hnb : nameB t.tk.text = true) (htl : s.tail.is 4 ⟨#[40]⟩ = false) (hk4 : (s.tail.headK == 4) = true) (ht4 : (s.tail.headT == (⟨#[40]⟩ : ByteArray).data.toList) = false) : Calls Try.prog 85 #[.pointer (some ⟨p, 0, none⟩)] w (Px p w (single E s)) := by
  have hpw := hS.lt
  have hgood : s.good = true := by rw [hs]; rfl
  have hheadK : s.headK = t.tk.kind := by rw [hs]; rfl
  have hheadT : s.headT = t.tk.text := by rw [hs]; rfl
  have hheadN : s.headN = t.tk.num := by rw [hs]; rfl
  have hS2 := hS
  rw [hs] at hS2
  obtain ⟨hd, h⟩ := hS2
  obtain ⟨oa, cap, hh, hc, hat, hne⟩ := h.ex
  have r0 := Rg.blk_cells hh 0
  have r2 := Rg.blk_cells hh 2
  simp only [List.getElem?_toArray, List.getElem?_cons_zero, List.getElem?_cons_succ] at r0 r2
  obtain ⟨b, off, hoa, hb, c0, c1, c2, c3⟩ := t_get hat 0 (by simp)
  simp only [List.getElem_cons_zero, Nat.zero_mul, Nat.add_zero] at c0 c1 c2 c3
  subst hoa
  obtain ⟨n, hn⟩ : ∃ n, (t :: tr).length = n := ⟨_, rfl⟩
  have hn1 : 1 ≤ n := by rw [← hn]; simp
  rw [hn] at r0 hc
  have g2 : (0 : Int) < (n : Int) := by omega
  have hA1 := fun o => (Gr.refl w).alloc o
  have hA := fun o1 o2 => (hA1 o1).alloc o2
  have hS0 := fun o1 o2 => hS.keep (hA o1 o2)
  have eR : single E s = nameS s := by
    unfold single; rw [hheadK, hheadT]; simp only [hk1, hn_true, hn_false, hn_null, hw4, hbt, hnb, htl]; rfl
  rw [eR]
  clear eR
  have q1 : ((t.tk.kind : Int) == 2) = false := by rw [hk1]; rfl
  have q2 : ((t.tk.kind : Int) == 3) = false := by rw [hk1]; rfl
  have q3 : ((t.tk.kind : Int) == 1) = true := by rw [hk1]; rfl
  have hb0 := fun w => built_any (txt t.tk.text) w
  rw [txt_list] at hb0
  obtain ⟨m, hm⟩ := h.gl
  have hsz : (txt t.tk.text).size ≤ 140737488355328 := by rw [txt_size]; have := h.tok.text t (by simp); omega
  have hnm := fun w' (h' : w'.cell? ⟨0, 0, none⟩ = some (.int .i64 m)) => name_any (txt t.tk.text) m w' hsz h'
  rw [txt_list] at hnm
  have hr2 : 0 < tr.length := (h.tok.tail (by omega)).pos
  have hlen2 : (t :: tr).length = tr.length + 1 := rfl
  obtain ⟨t2, tr2, htr⟩ : ∃ t2 tr2, tr = t2 :: tr2 := by cases tr with
    | nil => simp at hr2
    | cons t2 tr2 => exact ⟨t2, tr2, rfl⟩
  subst htr
  obtain ⟨b', off', hoa', _, d0, d1, _, _⟩ := t_get hat 1 (by simp)
  cases hoa'
  simp only [List.getElem_cons_succ, List.getElem_cons_zero, Nat.one_mul] at d0 d1
  have w1a := hn_true
  have w1b := hn_false
  have w1c := hn_null
  have h0a : ∀ o2, ((w.alloc (.cells zeroX 32)).alloc o2).heap[w.heap.size]? = some (.cells zeroX 32 (0, 0)) := fun o2 => by
    rw [((Gr.refl _).alloc _).block _ (by simp)]; exact alloc_at _ _
  have HGL : Hid (∀ o1 o2 w', Gr ((w.alloc o1).alloc o2) w' → w'.cell? ⟨0, 0, none⟩ = some (.int .i64 m)) := hid (fun o1 o2 w' hg => ((hA o1 o2).trans hg).keep hm)
  have n2 : (1 : Int) < (n : Int) := by rw [← hn]; simp; omega
  have n3 : 2 ≤ n := by rw [← hn]; simp
  have k2 : ((t2.tk.kind : Int) == 4) = true := by rw [show (4 : Int) = ((4 : Nat) : Int) from rfl, ibeq']; rw [hs] at hk4; exact hk4
  have x2 : ((txt t2.tk.text).toList == [40]) = false := by rw [ByteArray.toList_eq, txt_list]; rw [hs] at ht4; exact ht4
  generalize t2.tk.kind = tk2 at *
  generalize hx2 : txt t2.tk.text = tx2 at *
  clear hx2 hr2 hlen2 hn
  generalize hk0 : t.tk.kind = tk at *
  generalize ht0 : t.tk.text = tx at *
  generalize hm0 : t.tk.num = tn at *
  generalize t.pos = tp at *
  clear h hat hne hh hs hS hk0 ht0 hm0 hk1
  go_enter Try.func85, Try.ntmps85
  go_wp2_with fail
  refine (word_no p ⟨#[116, 114, 117, 101]⟩ s _ (hS0 _ _) w1a).mono ?_
  rintro e w' ⟨rfl, rfl⟩
  go_wp2_with fail
  refine (word_no p ⟨#[102, 97, 108, 115, 101]⟩ s _ (hS0 _ _) w1b).mono ?_
  rintro e w' ⟨rfl, rfl⟩
  go_wp2_with fail
  refine (word_no p ⟨#[110, 117, 108, 108]⟩ s _ (hS0 _ _) w1c).mono ?_
  rintro e w' ⟨rfl, rfl⟩
  go_wp2_with fail
  refine (is4_any p ⟨#[40]⟩ s _ (hS0 _ _)).mono ?_
  rintro e w' ⟨rfl, rfl⟩
  rw [hw4]
  go_wp2_with fail
  refine (hb0 _).mono ?_
  rintro e wb ⟨rfl, hgb⟩
  rw [hbt]
  have hgl := HGL.out _ _ wb hgb
  have hz0 := hgb.size
  simp only [World.size_alloc] at hz0
  have hKb : ∀ i, wb.cell? ⟨w.heap.size + 1, i, none⟩ = (#[.int .i64 (tk : Int), .string (txt tx), .int .i64 (tn : Int), .int .i64 (tp : Int)] : Array Value)[i]? := fun i => by
    rw [hgb.cells _ _ (by simp)]
    rw [show w.heap.size + 1 = (w.alloc (.cells zeroX 32)).heap.size from (World.size_alloc w (.cells zeroX 32)).symm]
    exact Rg.blk_cells (alloc_at _ _) i
  go_wp2_with fail
  refine (hnm _ hgl).mono ?_
  rintro e wn ⟨rfl, hgn⟩
  rw [hnb]
  have hgbn : Gr _ wn := Gr.trans hgb hgn
  have r0n := ((hA _ _).trans hgbn).keep r0
  have d0n := ((hA _ _).trans hgbn).keep d0
  have d1n := ((hA _ _).trans hgbn).keep d1
  have hgz : Gr _ wn := hgbn
  have hz1 := hgz.size
  simp only [World.size_alloc] at hz1
  go_wp2_with fail
  refine (pname_any p s _ ((hS0 _ _).keep hgz)).mono ?_
  rintro e w5 ⟨rfl, hps5, hg5⟩
  have z5 := hg5.size
  have h05 : w5.heap[w.heap.size]? = some (.cells zeroX 32 (0, 0)) := by
    rw [hg5.get (by omega) (by omega), hgz.block _ (by simp; omega)]; exact h0a _
  have hgo5 : Go1 p w w5 := ((Go1.of (hA _ _)).block2 hgz).trans hg5
  obtain ⟨n1, hn1'⟩ : ∃ n1, s.name.1 = n1 := ⟨_, rfl⟩
  obtain ⟨s5, hs5⟩ : ∃ s5, s.name.2 = s5 := ⟨_, rfl⟩
  obtain ⟨R, hR0⟩ : ∃ R, nameS s = R := ⟨_, rfl⟩
  have HR : Hid (R = (if s5.is 4 ⟨#[46]⟩ then (let m := s5.step.name; (.mk { op := 2, tab := n1, name := m.1 } [], m.2)) else (.mk { op := 2, name := n1 } [], s5))) := hid (by rw [← hR0, ← hs5, ← hn1']; rfl)
  rw [hn1']
  rw [hs5] at hps5
  clear hg5 hS0 hA hA1 h0a hn1' hs5 hgz
  go_wp2_with fail
  refine (sign_any' p ⟨#[46]⟩ s5 _ hps5).mono ?_
  rintro e w6 ⟨rfl, hps6, hg6⟩
  have z6 := hg6.size
  have h06 : w6.heap[w.heap.size]? = some (.cells zeroX 32 (0, 0)) := by
    rw [hg6.get (by omega) (by omega)]; exact h05
  have hgo6 := hgo5.trans hg6
  clear hg6 hps5 hgo5 h05
  cases hB : s5.is 4 ⟨#[46]⟩ with
  | true =>
    rw [show (s5.may 4 ⟨#[46]⟩).2 = s5.step by simp [Ps.may, hB]] at hps6
    go_wp2_with fail
    refine (pname_any p s5.step _ hps6).mono ?_
    rintro e w7 ⟨rfl, hps7, hg7⟩
    have FI : Hid (∀ W5, Go1 w.heap.size w7 W5 → Rx p w (nameS s) (XR.val ⟨{ op := 2, tab := n1, name := s5.step.name.1 }, none, 0, 0⟩) W5) := hid (fun W5 h5 => by
      rw [hR0, HR.out, hB]
      exact giveG (R := (.mk { op := 2, tab := n1, name := s5.step.name.1 } [], s5.step.name.2)) hpw rfl (formZ (S := fun b => w.heap.size ≤ b ∧ b ≠ w.heap.size)) hps7 (hgo6.trans hg7) (fun _ => rfl) h5)
    have H05 : Hid (w7.heap[w.heap.size]? = some (.cells zeroX 32 (0, 0))) := hid (by rw [hg7.get (by omega) (by omega)]; exact h06)
    clear hps6 hps7 hg7 hgo6 h06 HR hR0
    generalize s5.step.name.1 = n2 at *
    go_wp2_with (guard_target =~ wpList _ _ _ (Oper.mk _ (Op.store 32 _ _) _ _ _ _ :: _) _ _; refine st_row (ty := 32) rfl rfl w.heap.size _ rfl rfl 32 _ (H05.out) (by kernel_rfl) rfl (by kernel_rfl) ?_; intro W5 hW5 gW5 zW5)
    (try change bodyPost _ _ _ _ _ _)
    have hT := Rg.blk_cells hW5
    refine bodyPost_ret (v := XR.val ⟨{ op := 2, tab := n1, name := n2 }, none, 0, 0⟩) (by simp [results, Try.results85, go_sem, XR.val, nul, hT]; try rfl) rfl ⟨_, rfl, FI.out W5 gW5⟩
  | false =>
    rw [show (s5.may 4 ⟨#[46]⟩).2 = s5 by simp [Ps.may, hB]] at hps6
    have FI : Hid (∀ W5, Go1 w.heap.size w6 W5 → Rx p w (nameS s) (XR.val ⟨{ op := 2, name := n1 }, none, 0, 0⟩) W5) := hid (fun W5 h5 => by
      rw [hR0, HR.out, hB]
      exact giveG (R := (.mk { op := 2, name := n1 } [], s5)) hpw rfl (formZ (S := fun b => w.heap.size ≤ b ∧ b ≠ w.heap.size)) hps6 hgo6 (fun _ => rfl) h5)
    have H05 := hid h06
    clear hps6 hgo6 h06 HR hR0
    go_wp2_with (guard_target =~ wpList _ _ _ (Oper.mk _ (Op.store 32 _ _) _ _ _ _ :: _) _ _; refine st_row (ty := 32) rfl rfl w.heap.size _ rfl rfl 32 _ (H05.out) (by kernel_rfl) rfl (by kernel_rfl) ?_; intro W5 hW5 gW5 zW5)
    (try change bodyPost _ _ _ _ _ _)
    have hT := Rg.blk_cells hW5
    refine bodyPost_ret (v := XR.val ⟨{ op := 2, name := n1 }, none, 0, 0⟩) (by simp [results, Try.results85, go_sem, XR.val, nul, hT]; try rfl) rfl ⟨_, rfl, FI.out W5 gW5⟩
theorem tail_is {s : Ps} {k : Nat} {c : ByteArray} (h : s.is k c = false) (hk : (s.headK == k) = true) (hk0 : k ≠ 0) : (s.headT == c.data.toList) = false := by
  match s, h, hk with
  | .ok (t :: r) d, h, hk =>
    simp only [Ps.is] at h
    have hk' : (t.tk.kind == k) = true := hk
    rw [hk'] at h
    show (t.tk.text == c.data.toList) = false
    simpa using h
  | .ok [] d, h, hk => exact absurd (by simpa [Ps.headK] using hk) (Ne.symm hk0)
  | .bad e a, h, hk => exact absurd (by simpa [Ps.headK] using hk) (Ne.symm hk0)
theorem single_any (E : Pa Ex) (hdp : DP E) (p N : Nat) (hor : RdL 18 E p N) (hex : RdsL 56 (sep E) p N) : Rd 85 (single E) p N := fun s w hS hsN => by
  match hs : s, hS with
  | .bad e a, hS => exact single_bad E p e a w hS
  | .ok [] d, hS => exact hS.2.nil.elim
  | .ok (t :: tr) d, hS =>
    rw [← hs] at hS hsN ⊢
    have hgood : s.good = true := by rw [hs]; rfl
    have hhK : s.headK = t.tk.kind := by rw [hs]; rfl
    have hhT : s.headT = t.tk.text := by rw [hs]; rfl
    by_cases hk2 : t.tk.kind = 2
    · exact single_int E p t tr d s hs w hS hk2
    by_cases hk3 : t.tk.kind = 3
    · exact single_text E p t tr d s hs w hS hk3
    cases h1 : s.is 1 ⟨#[116, 114, 117, 101]⟩ with
    | true => exact single_true E p t tr d s hs w hS h1
    | false =>
    cases h2 : s.is 1 ⟨#[102, 97, 108, 115, 101]⟩ with
    | true => exact single_false E p t tr d s hs w hS h2 h1
    | false =>
    cases h3 : s.is 1 ⟨#[110, 117, 108, 108]⟩ with
    | true => exact single_null E p t tr d s hs w hS h3 h1 h2
    | false =>
    cases h4 : s.is 4 ⟨#[40]⟩ with
    | true =>
      cases hD : s.down.good with
      | false => exact single_paren_full E p t tr d s hs w hS h4 hD
      | true =>
        obtain ⟨d1, d2, d3, d4⟩ := down_good hD
        have := (is_step (s := s.down) (k := 4) (c := ⟨#[40]⟩) (by rw [d4]; exact h4) (by decide)).1
        exact single_paren E p t tr d s hs w hS h4 hD hdp (fun w' h' => hor _ w' h' (by omega))
    | false =>
    by_cases hk1 : t.tk.kind = 1
    · have hcall : ∀ w', PS p w' s → Calls Try.prog 89 #[.pointer (some ⟨p, 0, none⟩), .string (txt s.headT)] w' (Px p w' (callS E s.headT s)) := fun w' h' => call_any E hdp p N hor hex s.headT s w' h' hgood (by rw [hhK]; exact hk1) hsN
      cases hbt : built t.tk.text with
      | true => exact single_built E p t tr d s hs w hS h1 h2 h3 hk1 h4 hbt hcall
      | false =>
        cases hnb : nameB t.tk.text with
        | false => exact single_noname E p t tr d s hs w hS h1 h2 h3 h4 hk1 hbt hnb
        | true =>
          cases htl : s.tail.is 4 ⟨#[40]⟩ with
          | true => exact single_next E p t tr d s hs w hS h1 h2 h3 hk1 h4 hbt hnb htl hcall
          | false =>
            cases hk4 : s.tail.headK == 4 with
            | false => exact single_nextk E p t tr d s hs w hS h1 h2 h3 h4 hk1 hbt hnb htl hk4
            | true => exact single_nextt E p t tr d s hs w hS h1 h2 h3 h4 hk1 hbt hnb htl hk4 (tail_is htl hk4 (by decide))
    · exact single_nokind E p t tr d s hs w hS h1 h2 h3 h4 hk2 hk3 hk1
end Go.Proofs.Ytaogpifcfmjcbaa
end
section
namespace Go.Proofs.Ytaogpifcfmjcbaa
open Go.RowKit
set_option linter.unusedSimpArgs false
set_option linter.unusedVariables false
attribute [local go_sem] Rg.leads_value Rg.leads_skip Rg.leads_enter Rg.brings_value Rg.brings_skip Rg.brings_enter Rg.bringsG_value Rg.bringsG_enter Rg.once_normal Rg.once_exit Rg.once_ret Rg.once_panic Rg.once_goto Rg.bringsS_value Rg.bringsS_skip Rg.bringsS_enter Rg.still_value Rg.still_skip Rg.still_enter
set_option maxHeartbeats 8000000 in
set_option maxRecDepth 100000 in
theorem compare_any (q E : Pa Ex) (p N : Nat) (hN : N ≤ 1000000) (hq : Rd 74 q p N) (hn : NI q) (hE : NI E) (hl : Rds 75 (listS E) p N) (hdp : DP q) : Rd 68 (compares q E) p N := by
  intro s w hS hsN
  have hpw := hS.lt
  have hS0 := fun o => hS.keep ((Gr.refl w).alloc o)
  obtain ⟨R, hR0⟩ : ∃ R, compares q E s = R := ⟨_, rfl⟩
  rw [hR0]
  go_enter Try.func68, Try.ntmps68
  go_wp2_with fail
  refine (hq s _ (hS0 _) hsN).mono ?_
  rintro e w1 ⟨u, rfl, r, x, rfl, hx, hps, hgo, hgd⟩
  have hcb := hid (CB.start (s := s) (q := q) hpw hx hgo)
  have hz1 := hgo.size
  simp only [World.size_alloc] at hz1
  have hps1 := hid (hps.keep ((Gr.refl w1).alloc (.cells r.cells 32)))
  obtain ⟨a, ha⟩ : ∃ a, (q s).1 = a := ⟨_, rfl⟩
  obtain ⟨s1, hs1⟩ : ∃ s1, (q s).2 = s1 := ⟨_, rfl⟩
  have hs1N : s1.size ≤ N := by rw [← hs1]; exact Nat.le_trans (hn s) hsN
  have HR : compares q E s = compareT q E a s1 := by show compareT q E (q s).1 (q s).2 = _; rw [ha, hs1]
  rw [HR] at hR0
  clear HR
  have HR := hid hR0
  clear hR0
  rw [ha, hs1] at hgd
  rw [hs1] at hps1
  clear hx hps hgo hS0 ha hs1
  have HRG : ∀ (Q : Ex × Ps) W0 u W, Rx p W0 Q u W → Go1 p W0 W := fun _ _ _ _ h => h.go
  unfold XR.val
  go_wp2_with fail
  generalize Value.agg #[Value.int _ r.h.op, _, _, _, _, _, _, _, _, _, _, _] = uu
  have hE0 : w.heap.size < w1.heap.size := by omega
  have hnR : w.heap.size < w1.heap.size := by omega
  generalize w1.heap.size = E0 at *
  go_loopw [12] (fun s12 wr => ∃ k : Nat, s12 = .int .i64 (k : Int) ∧ k ≤ 6 ∧ (∀ j, j < k → s1.is 4 (cmpC j) = false) ∧ PS p wr s1 ∧ CB p w w.heap.size E0 r x wr) (fun s12 _ => 6 - (intOf s12).toNat)
  · exact ⟨0, rfl, by omega, fun j hj => by omega, hps1.out, hcb.out⟩
  · clear hcb hps1
    obtain ⟨k, rfl, hk6, hno, hps, hcb⟩ := hrel
    by_cases hk : k < 6
    · have t6 : decide ((k : Int) < 6) = true := by rw [decide_eq_true_iff]; omega
      have hix := fun W => cmp_index (W := W) k hk
      have hwr : wrap64 ((k : Int) + 1) = (k : Int) + 1 := by unfold wrap64; omega
      have hw9 : IntKind.i64.wrap (9 + (k : Int)) = 9 + (k : Int) := by rw [IntWalk.i64_left]; unfold wrap64; omega
      have HC := hid hcb
      have HF := hid (fun h => cmp_find (s := s1) hk h hno)
      have HNO := hid hno
      clear hcb hno
      obtain ⟨c, hc⟩ : ∃ c, cmpC k = c := ⟨_, rfl⟩
      rw [hc] at HF hix
      go_wp2_with fail
      refine (sign_any' p c s1 wr hps).mono ?_
      rintro e w2 ⟨rfl, hps2, hg2⟩
      cases hB : s1.is 4 c with
      | true =>
        have e2 : (s1.may 4 c).2 = s1.step := by simp [Ps.may, hB]
        rw [e2] at hps2
        obtain ⟨hs1a, hs2, hs3⟩ := is_step hB (by decide)
        have eR : Hid (R = (tre (9 + (k : Int)) [a, (q s1.step).1], (q s1.step).2)) := hid (by rw [← HR.out]; unfold compareT; rw [HF.out hB])
        have hcb2 := HC.out.go hg2
        have hlE := hcb2.lt
        have cE := Rg.blk_cells hcb2.e
        have HC2 := hid hcb2
        have HQ := hid (fun W0 (h : Gr w2 W0) => hq s1.step W0 (hps2.keep h) (by omega))
        have hpE : E0 ≠ p := by omega
        clear hcb2 hps2 hps HC HF HNO hg2 e2 hix
        go_wp2_with fail
        refine Rg.region_chain 6 [4, 5] [] (Late2 4 2 32 w2 (fun W0 u W => Rx p W0 (q s1.step) u W) (CsX r.cells)) [some (.int .i64 (k : Int)), some (.int .i64 (9 + (k : Int))), some (.agg #[.int .i64 r.h.op, .int .i64 r.h.v.t, .int .i64 r.h.v.n, .string r.h.v.s, .bool r.h.v.b, .string r.h.tab, .string r.h.name, .int .i64 r.h.t, .int .i64 r.h.c, .bool r.h.nt, .bool r.h.st, .slice r.oa r.n r.cap]), some (.pointer (some ⟨p, 0, none⟩)), none, none]
          (fun v => Late2.s0 ((Gr.refl _).drew)) (by kernel_rfl) (by kernel_rfl) (by kernel_rfl) (by kernel_rfl) (fun _ _ d _ _ h => by cases d <;> exact h) ?_
        intro OPS _ v
        simp only [List.take_succ_cons, List.take_zero, Rg.wpC, Rg.wpS, Option.getD_some, Option.getD_none, Act.put, List.setIfInBounds_toArray, List.set_cons_zero, List.set_cons_succ, show List.contains [4, 5] 0 = false from rfl, show List.contains [4, 5] 1 = false from rfl, show List.contains [4, 5] 2 = false from rfl, show List.contains [4, 5] 3 = false from rfl, show List.contains [4, 5] 4 = true from rfl, show List.contains [4, 5] 5 = true from rfl, Bool.false_eq_true, if_false, if_true, Nat.reduceAdd]
        refine ⟨?_, ?_, ?_, ?_, ?_, ?_, ?_⟩
        · refine sc_still (by rfl) (by rfl) (fun s' W _ hS => ?_)
          have hg := Late2.any (fun _ _ _ h => HRG _ _ _ _ h) hS
          have cW : ∀ i, W.cell? ⟨E0, i, none⟩ = (#[.int .i64 r.h.op, .int .i64 r.h.v.t, .int .i64 r.h.v.n, .string r.h.v.s, .bool r.h.v.b, .string r.h.tab, .string r.h.name, .int .i64 r.h.t, .int .i64 r.h.c, .bool r.h.nt, .bool r.h.st, .slice r.oa r.n r.cap] : Array Value)[i]? := fun i => by rw [hg.cell hlE hpE]; exact cE i
          go_simp
        · refine sc_still (by rfl) (by rfl) (fun s' W _ hS => ?_)
          have hg := Late2.any (fun _ _ _ h => HRG _ _ _ _ h) hS
          have cW : ∀ i, W.cell? ⟨E0, i, none⟩ = (#[.int .i64 r.h.op, .int .i64 r.h.v.t, .int .i64 r.h.v.n, .string r.h.v.s, .bool r.h.v.b, .string r.h.tab, .string r.h.name, .int .i64 r.h.t, .int .i64 r.h.c, .bool r.h.nt, .bool r.h.st, .slice r.oa r.n r.cap] : Array Value)[i]? := fun i => by rw [hg.cell hlE hpE]; exact cE i
          go_simp
        · refine sc_still (by rfl) (by rfl) (fun s' W _ hS => ?_)
          have hg := Late2.any (fun _ _ _ h => HRG _ _ _ _ h) hS
          have cW : ∀ i, W.cell? ⟨E0, i, none⟩ = (#[.int .i64 r.h.op, .int .i64 r.h.v.t, .int .i64 r.h.v.n, .string r.h.v.s, .bool r.h.v.b, .string r.h.tab, .string r.h.name, .int .i64 r.h.t, .int .i64 r.h.c, .bool r.h.nt, .bool r.h.st, .slice r.oa r.n r.cap] : Array Value)[i]? := fun i => by rw [hg.cell hlE hpE]; exact cE i
          go_simp
        · refine sc_still (by rfl) (by rfl) (fun s' W _ hS => ?_)
          have hg := Late2.any (fun _ _ _ h => HRG _ _ _ _ h) hS
          have cW : ∀ i, W.cell? ⟨E0, i, none⟩ = (#[.int .i64 r.h.op, .int .i64 r.h.v.t, .int .i64 r.h.v.n, .string r.h.v.s, .bool r.h.v.b, .string r.h.tab, .string r.h.name, .int .i64 r.h.t, .int .i64 r.h.c, .bool r.h.nt, .bool r.h.st, .slice r.oa r.n r.cap] : Array Value)[i]? := fun i => by rw [hg.cell hlE hpE]; exact cE i
          go_simp
        · refine sc_new (by rfl) (by rfl) (fun W hS => ?_)
          have hg := Late2.g0 hS
          go_simp
          refine (HQ.out W hg).mono ?_
          rintro e w' ⟨u, rfl, hu⟩
          exact ⟨u, rfl, Late2.s1 ⟨W, hg, by rw [upd_same]; exact hu⟩⟩
        · refine sc_new (by rfl) (by rfl) (fun W hS => ?_)
          obtain ⟨W0, hg0, hRx⟩ := Late2.g1 hS
          have hRx2 := hRx
          obtain ⟨ry, y, hv, _⟩ := hRx2
          have hK := hid (Late2.s2 (RX := fun W0 u W => Rx p W0 (q s1.step) u W) (m := 2) (T := 32) (CS := CsX r.cells) (v := v) (cs := #[.int .i64 r.h.op, .int .i64 r.h.v.t, .int .i64 r.h.v.n, .string r.h.v.s, .bool r.h.v.b, .string r.h.tab, .string r.h.name, .int .i64 r.h.t, .int .i64 r.h.c, .bool r.h.nt, .bool r.h.st, .slice r.oa r.n r.cap, .int .i64 ry.h.op, .int .i64 ry.h.v.t, .int .i64 ry.h.v.n, .string ry.h.v.s, .bool ry.h.v.b, .string ry.h.tab, .string ry.h.name, .int .i64 ry.h.t, .int .i64 ry.h.c, .bool ry.h.nt, .bool ry.h.st, .slice ry.oa ry.n ry.cap]) hg0 hRx ⟨ry, hv, by simp [XR.cells]⟩)
          unfold XR.val at hv
          rw [hv]
          clear hRx hS hg0 hv
          go_simp
          exact hK.out
        · intro W9 hS
          obtain ⟨W0, W, cs, hg0, hRx, ⟨ry2, hv4, hcs0⟩, rfl, hv5⟩ := Late2.g2 hS
          have hgW := (Go1.of hg0).trans (HRG _ _ _ _ hRx)
          generalize v 4 = vv at *
          generalize v 5 = vw at *
          subst hv5
          obtain ⟨ry, y, hry, hy, hpy, hgy, hyg⟩ := hRx
          have hrr : ry = ry2 := xr_inj (hry.symm.trans hv4)
          subst hrr
          have hcs := hid hcs0
          clear hv4 hcs0
          subst hry
          simp only [List.drop_succ_cons, List.drop_zero]
          have hc3 := HC2.out.go hgW
          have hz0 := hg0.size
          have hlE3 := hc3.lt
          have hzw := HC2.out.g.size
          have hzy := hgy.size
          have FI : Hid (∀ cs W4, Gr (W.alloc (.cells cs 32)) W4 → cs = r.cells ++ ry.cells → PS p W4 (q s1.step).2 ∧ W4.heap[w.heap.size]? = some (.cells zeroX 32 (0, 0)) ∧ (∀ b0 b1 b2 b3 b4 b5 b6 b7 b8 b9 b10 b11 : Value, Rx p w R (XR.val ⟨{ op := 9 + (k : Int) }, some ⟨W.heap.size, 0, none⟩, 2, 2⟩) _)) := hid (fun cs W4 h4 hcs => by
            have hgr := ((Gr.refl W).alloc (.cells cs 32)).trans h4
            have hc4 := hc3.gr hgr
            have hrow : W4.heap[W.heap.size]? = some (.cells cs 32) := by rw [h4.block _ (by simp)]; exact alloc_at _ _
            have hp4 := hpy.keep hgr
            rw [eR.out]
            refine ⟨hp4, hc4.z, CB.give hc4 (x' := tre (9 + (k : Int)) [x, y]) (formN (rs := [r, ry]) ⟨by omega, by omega⟩ hrow (by rw [hcs]; simp [cellsF, xF]) (Exs.At.cons hc4.at (Exs.At.cons ?_ Exs.At.nil)) (fit_le _ (by simp))) hp4 (fun h => by rw [hgd hs3, hyg h])⟩
            exact (hy.of hgr.size (fun b hb hl => hgr.block b hl)).mono (fun b _ hb => by have : W0.heap.size ≤ b := hb; exact ⟨by omega, by omega⟩))
          clear hy hpy hgy hyg HC2 HQ hgW hS hg0 hc3
          unfold XR.val
          go_wp2_with fail
          refine (tree_any _ _ _ _ _).mono ?_
          rintro e W4 ⟨rfl, h4⟩
          obtain ⟨hpf, h04, hfi⟩ := FI.out _ W4 h4 hcs.out
          have c4 := Rg.blk_cells h04
          have f4 := Rg.blk_free h04
          have FI2 := hid hfi
          clear FI h4 hfi hpf
          unfold XR.val
          go_wp2
          (try change bodyPost _ _ _ _ _ _)
          generalize hW5 : World.setCell _ _ _ = W5
          have hT := cells12 h04 hW5
          have hF := Rx.at12 FI2.out hW5
          clear hW5 h04 FI2
          refine bodyPost_ret (v := XR.val ⟨{ op := 9 + (k : Int) }, some ⟨W.heap.size, 0, none⟩, 2, 2⟩) (by simp [results, Try.results68, go_sem, XR.val, nul, hT]; try rfl) rfl ⟨_, rfl, hF⟩
      | false =>
        have e2 : (s1.may 4 c).2 = s1 := by simp [Ps.may, hB]
        rw [e2] at hps2
        have hR : Hid (∀ j, j < k + 1 → s1.is 4 (cmpC j) = false) := hid (fun j hj => by
          by_cases h : j = k
          · subst h; rw [hc]; exact hB
          · exact HNO.out j (by omega))
        have HC2 := hid (HC.out.go hg2)
        have HP2 := hid hps2
        clear hps2 hg2 HC HF HNO hps e2 hB
        go_wp2
        exact ⟨⟨k + 1, by go_num, by omega, hR.out, HP2.out, HC2.out⟩, by simp [intOf]; omega⟩
    · have t6 : decide ((k : Int) < 6) = false := by rw [decide_eq_false_iff_not]; omega
      have hnone := hid (cmp_none (s := s1) (fun j hj => hno j (by omega)))
      clear hno hk hk6
      have HC := hid hcb
      clear hcb
      go_wp2_with fail
      refine (word_any p ⟨#[105, 115]⟩ s1 wr hps).mono ?_
      rintro e w2 ⟨rfl, hps2, hg2⟩
      have HC2 := hid (HC.out.go hg2)
      clear HC hg2
      cases hI : s1.is 1 ⟨#[105, 115]⟩ with
      | true =>
        have e2 : (s1.may 1 ⟨#[105, 115]⟩).2 = s1.step := by simp [Ps.may, hI]
        rw [e2] at hps2
        obtain ⟨hs1a, hs2, hs3⟩ := is_step hI (by decide)
        have eR : R = (.mk { op := 15, nt := s1.step.is 1 ⟨#[110, 111, 116]⟩ } [a], (s1.step.may 1 ⟨#[110, 111, 116]⟩).2.need 1 ⟨#[110, 117, 108, 108]⟩) := by rw [← HR.out]; unfold compareT; rw [hnone.out, hI]; simp only [if_true, Ps.word]; rw [show (s1.step.may 1 ⟨#[110, 111, 116]⟩).1 = s1.step.is 1 ⟨#[110, 111, 116]⟩ by unfold Ps.may; split <;> simp_all]
        clear e2 hnone
        go_wp2_with fail
        refine (word_any p ⟨#[110, 111, 116]⟩ _ _ hps2).mono ?_
        rintro e w3 ⟨rfl, hps3, hg3⟩
        obtain ⟨n, hn3⟩ : ∃ n, s1.step.is 1 ⟨#[110, 111, 116]⟩ = n := ⟨_, rfl⟩
        obtain ⟨s3, hs3'⟩ : ∃ s3, (s1.step.may 1 ⟨#[110, 111, 116]⟩).2 = s3 := ⟨_, rfl⟩
        rw [hs3'] at hps3
        rw [hn3]
        rw [hn3, hs3'] at eR
        have HER := hid eR
        have HC3 := hid (HC2.out.go hg3)
        clear HC2 hg3 hps2 hn3 hs3' eR
        go_wp2_with fail
        have hps4 := fun o => hps3.keep ((Gr.refl w3).alloc o)
        refine (words_one p w3.heap.size ⟨#[110, 117, 108, 108]⟩ s3 _ (hps4 _) (by rw [Rg.blk_cells (alloc_at _ _)]; rfl)).mono ?_
        rintro e w4 ⟨rfl, hps5, hg4⟩
        have hc4 := (HC3.out.gr ((Gr.refl w3).alloc _)).go hg4
        have HC4 := hid hc4
        have cE := Rg.blk_cells hc4.e
        have hlE := hc4.lt
        have hz4 := hc4.g.size
        simp only [XR.cells] at cE
        clear HC3 hg4 hps4 hps3 hc4
        have h04 := HC4.out.z
        have c0 := Rg.blk_cells h04
        have f0 := Rg.blk_free h04
        simp only [zeroX] at c0
        have hR0l : w.heap.size < w4.heap.size := (Array.getElem?_eq_some_iff.1 h04).1
        have FI : Hid (∀ W5, Go1 w.heap.size (w4.alloc (.cells r.cells 32)) W5 → Rx p w R (XR.val ⟨{ op := 15, nt := n }, some ⟨w4.heap.size, 0, none⟩, 1, 1⟩) W5) := hid (fun W5 h5 => by
          have hgr := (Gr.refl w4).alloc (.cells r.cells 32)
          have hc5 := HC4.out.gr hgr
          rw [HER.out]
          exact CB.giveG hc5 (x' := .mk { op := 15, nt := n } [x]) (formN (rs := [r]) ⟨by omega, by omega⟩ (alloc_at _ _) (by simp [cellsF, xF]) (Exs.At.cons hc5.at Exs.At.nil) (fit_le _ (by simp))) (hps5.keep hgr) (fun h => by rw [hgd hs3]) h5)
        have h05 : ∀ o, (w4.alloc o).heap[w.heap.size]? = some (.cells zeroX 32 (0, 0)) := fun o => (((Gr.refl w4).alloc o).block _ hR0l).trans h04
        have H05 := hid h05
        clear HC4 hps5 h04 h05 c0 f0
        go_wp2_with (guard_target =~ wpList _ _ _ (Oper.mk _ (Op.store 32 _ _) _ _ _ _ :: _) _ _; refine st_row (ty := 32) rfl rfl w.heap.size _ rfl rfl 32 _ (H05.out _) (by kernel_rfl) rfl (by kernel_rfl) ?_; intro W5 hW5 gW5 zW5)
        (try change bodyPost _ _ _ _ _ _)
        have hT := Rg.blk_cells hW5
        refine bodyPost_ret (v := XR.val ⟨{ op := 15, nt := n }, some ⟨w4.heap.size, 0, none⟩, 1, 1⟩) (by simp [results, Try.results68, go_sem, XR.val, nul, hT]; try rfl) rfl ⟨_, rfl, FI.out W5 gW5⟩
      | false =>
        have e2 : (s1.may 1 ⟨#[105, 115]⟩).2 = s1 := by simp [Ps.may, hI]
        rw [e2] at hps2
        clear e2
        go_wp2_with fail
        refine (word_any p ⟨#[110, 111, 116]⟩ _ _ hps2).mono ?_
        rintro e w3 ⟨rfl, hps3, hg3⟩
        have HC3 := hid (HC2.out.go hg3)
        clear HC2 hg3 hps2
        obtain ⟨n, hn3⟩ : ∃ n, s1.is 1 ⟨#[110, 111, 116]⟩ = n := ⟨_, rfl⟩
        obtain ⟨s3, hs3'⟩ : ∃ s3, (s1.may 1 ⟨#[110, 111, 116]⟩).2 = s3 := ⟨_, rfl⟩
        have hsz3 : s3.size ≤ N := by rw [← hs3']; exact Nat.le_trans (size_may _ _ _) hs1N
        have hg31 : s3.good = true → s1.good = true := by
          intro h
          rw [← hs3'] at h
          unfold Ps.may at h
          split at h
          · rename_i h0; exact (is_step h0 (by decide)).2.2
          · exact h
        have hnw : s1.word ⟨#[110, 111, 116]⟩ = (n, s3) := by
          rw [← hn3, ← hs3']
          show s1.may 1 ⟨#[110, 111, 116]⟩ = _
          unfold Ps.may
          split <;> simp_all
        have hgd3 : Hid (s3.good = true → x = a) := hid (fun h => hgd (hg31 h))
        have HT : Hid (R = (if s3.is 1 ⟨#[105, 110]⟩ then (let l := listS E s3.step; (.mk { op := 16, nt := n } (a :: l.1), l.2)) else if s3.is 1 ⟨#[98, 101, 116, 119, 101, 101, 110]⟩ then betweens q n a s3.step else if n then (a, s3.fail 180) else (a, s3))) := hid (by
          rw [← HR.out]; unfold compareT; rw [hnone.out, hI]; simp only [Bool.false_eq_true, if_false]; rw [hnw])
        rw [hs3'] at hps3
        rw [hn3]
        clear hn3 hs3' hnw hg31 hgd hnone HR hI
        go_wp2_with fail
        refine (word_any p ⟨#[105, 110]⟩ _ _ hps3).mono ?_
        rintro e w4 ⟨rfl, hps4, hg4⟩
        have HC4 := hid (HC3.out.go hg4)
        clear HC3 hg4 hps3
        cases hIn : s3.is 1 ⟨#[105, 110]⟩ with
        | true =>
          have e2 : (s3.may 1 ⟨#[105, 110]⟩).2 = s3.step := by simp [Ps.may, hIn]
          rw [e2] at hps4
          obtain ⟨hsa, hsb, hsc⟩ := is_step hIn (by decide)
          have HER : Hid (R = (.mk { op := 16, nt := n } (a :: (listS E s3.step).1), (listS E s3.step).2)) := hid (by rw [HT.out, hIn]; rfl)
          have HPS := hid hps4
          have HQ := hid (fun W0 (h : PS p W0 s3.step) => hl s3.step W0 h (by omega))
          have hlE := HC4.out.lt
          have cE := Rg.blk_cells HC4.out.e
          simp only [XR.cells] at cE
          have hpE : E0 ≠ p := by omega
          have HX := hid HC4.out.at
          have hp4 : p < w4.heap.size := hps4.lt
          have hz4 := HC4.out.g.size
          obtain ⟨Q, hQ⟩ : ∃ Q, listS E s3.step = Q := ⟨_, rfl⟩
          rw [hQ] at HQ HER
          clear HT e2 hps4 hIn hQ
          go_wp2_with fail
          refine Rg.region_set 6 [2, 4, 5] [(2, 5), (4, 5)] [] (LsS p w4 (fun b => w.heap.size ≤ b ∧ b ≠ w.heap.size) r x Q s3.step 2 4 5) [some (.bool n), some (.agg #[.int .i64 r.h.op, .int .i64 r.h.v.t, .int .i64 r.h.v.n, .string r.h.v.s, .bool r.h.v.b, .string r.h.tab, .string r.h.name, .int .i64 r.h.t, .int .i64 r.h.c, .bool r.h.nt, .bool r.h.st, .slice r.oa r.n r.cap]), none, some (.pointer (some ⟨p, 0, none⟩)), none, none]
            (fun v => LsS.start HPS.out ((Gr.refl _).drew) v) (by kernel_rfl) (by kernel_rfl) (by kernel_rfl) (by kernel_rfl) (fun _ _ d _ _ h => by cases d <;> exact h) ?_
          intro OPS _ v
          simp only [List.take_succ_cons, List.take_zero, Rg.wpC, Rg.wpS, Option.getD_some, Option.getD_none, Act.put, List.setIfInBounds_toArray, List.set_cons_zero, List.set_cons_succ, show List.contains [2, 4, 5] 0 = false from rfl, show List.contains [2, 4, 5] 1 = false from rfl, show List.contains [2, 4, 5] 2 = true from rfl, show List.contains [2, 4, 5] 3 = false from rfl, show List.contains [2, 4, 5] 4 = true from rfl, show List.contains [2, 4, 5] 5 = true from rfl, Bool.false_eq_true, if_false, if_true, Nat.reduceAdd]
          refine ⟨?_, ?_, ?_, ?_, ?_, ?_, ?_⟩
          · refine ss_still (by rfl) (by rfl) (fun D W _ hS => ?_)
            go_simp
          · refine ss_still (by rfl) (by rfl) (fun D W _ hS => ?_)
            have hg := hS.go
            have cW : ∀ i, W.cell? ⟨E0, i, none⟩ = (#[.int .i64 r.h.op, .int .i64 r.h.v.t, .int .i64 r.h.v.n, .string r.h.v.s, .bool r.h.v.b, .string r.h.tab, .string r.h.name, .int .i64 r.h.t, .int .i64 r.h.c, .bool r.h.nt, .bool r.h.st, .slice r.oa r.n r.cap] : Array Value)[i]? := fun i => by rw [hg.cell hlE hpE]; exact cE i
            go_simp
          · refine ss_new (by rfl) (by rfl) (fun D W hD _ hS => ?_)
            have h5 := hS.n2 hD
            have hK := hid (hS.row (by decide) (by decide) h5 hD)
            clear hS
            go_simp
            exact hK.out
          · refine ss_still (by rfl) (by rfl) (fun D W _ hS => ?_)
            go_simp
          · refine ss_new (by rfl) (by rfl) (fun D W hD _ hS => ?_)
            have h5 := hS.n4 hD
            have hP := hS.ready h5 hD
            go_simp
            refine (HQ.out W hP).mono ?_
            rintro e w' ⟨u, rfl, hu⟩
            exact ⟨u, rfl, hS.call (w := w4) hp4 (by decide) (by decide) h5 hu⟩
          · refine ss_new (by rfl) (by rfl) (fun D W hD hP hS => ?_)
            obtain ⟨v1, v2, v', W', e1, e2, hrun, hS'⟩ := hS.append hp4 (by decide) (by decide) hD (hP 4 (by simp)) (hP 2 (by simp)) HX.out (fun b hb => by omega) 26
            exact brings_append (.tmp 45) (.tmp 47) 26 rfl e1 e2 hrun hS'
          · intro W hS
            have hgW := hS.go
            obtain ⟨oa, m, cap, xs, hv5, hxs, hpsW, hgdW⟩ := hS.fin (by rfl)
            generalize v 5 = vv at *
            subst hv5
            simp only [List.drop_succ_cons, List.drop_zero]
            have hc5 := HC4.out.go hgW
            have FI : Hid (∀ W5, Go1 w.heap.size W W5 → Rx p w R (XR.val ⟨{ op := 16, nt := n }, oa, m, cap⟩) W5) := hid (fun W5 h5 => by
              rw [HER.out]
              refine CB.giveG hc5 (x' := .mk { op := 16, nt := n } (x :: xs)) (Ex.At.list.2 ⟨rfl, hxs.mono (fun b _ hb => by omega)⟩) hpsW (fun h => ?_) h5
              have h1 : (x :: xs) = a :: Q.1 := by rw [hgdW h, hgd3.out hsc]
              rw [h1])
            have H05 := hid hc5.z
            clear hxs hpsW hgdW hc5 hgW hS HX HQ HER HC4
            go_wp2_with (guard_target =~ wpList _ _ _ (Oper.mk _ (Op.store 32 _ _) _ _ _ _ :: _) _ _; refine st_row (ty := 32) rfl rfl w.heap.size _ rfl rfl 32 _ (H05.out) (by kernel_rfl) rfl (by kernel_rfl) ?_; intro W5 hW5 gW5 zW5)
            (try change bodyPost _ _ _ _ _ _)
            have hT := Rg.blk_cells hW5
            refine bodyPost_ret (v := XR.val ⟨{ op := 16, nt := n }, oa, m, cap⟩) (by simp [results, Try.results68, go_sem, XR.val, nul, hT]; try rfl) rfl ⟨_, rfl, FI.out W5 gW5⟩
        | false =>
          have e2 : (s3.may 1 ⟨#[105, 110]⟩).2 = s3 := by simp [Ps.may, hIn]
          rw [e2] at hps4
          clear e2
          have HT2 : Hid (R = (if s3.is 1 ⟨#[98, 101, 116, 119, 101, 101, 110]⟩ then betweens q n a s3.step else if n then (a, s3.fail 180) else (a, s3))) := hid (by rw [HT.out, hIn]; rfl)
          clear HT hIn
          go_wp2_with fail
          refine (word_any p ⟨#[98, 101, 116, 119, 101, 101, 110]⟩ _ _ hps4).mono ?_
          rintro e w5 ⟨rfl, hps5, hg5⟩
          have HC5 := hid (HC4.out.go hg5)
          clear HC4 hg5 hps4
          cases hBt : s3.is 1 ⟨#[98, 101, 116, 119, 101, 101, 110]⟩ with
          | true =>
            have e2 : (s3.may 1 ⟨#[98, 101, 116, 119, 101, 101, 110]⟩).2 = s3.step := by simp [Ps.may, hBt]
            rw [e2] at hps5
            obtain ⟨hsa, hsb, hsc⟩ := is_step hBt (by decide)
            have HER : Hid (R = (.mk { op := 17, nt := n } [a, (q s3.step).1, (q ((q s3.step).2.need 1 ⟨#[97, 110, 100]⟩)).1], (q ((q s3.step).2.need 1 ⟨#[97, 110, 100]⟩)).2)) := hid (by rw [HT2.out, hBt]; rfl)
            have hnb := hn s3.step
            clear HT2 e2 hBt
            go_wp2_with fail
            refine (hq s3.step _ hps5 (by omega)).mono ?_
            rintro e w6 ⟨u, rfl, rb, xb, rfl, hxb, hps6, hg6, hgdb⟩
            have hz5 := HC5.out.g.size
            have hz6 := hg6.size
            have hAb := (Gr.refl w6).alloc (.cells rb.cells 32)
            have HC6 := hid ((HC5.out.go hg6).gr hAb)
            have hlE6 := (HC5.out.go hg6).lt
            have HB6 : Hid (Ex.At (fun b => w.heap.size ≤ b ∧ b ≠ w.heap.size ∧ b ≠ w6.heap.size) (w6.alloc (.cells rb.cells 32)) xb rb) := hid (by
              have h0 := HC5.out.lt
              refine (hxb.mono (fun b hl hs => ?_)).of hAb.size (fun b _ hl => hAb.block b hl)
              have : w5.heap.size ≤ b := hs
              exact ⟨by omega, by omega, by omega⟩)
            have hps7 := hid (hps6.keep hAb)
            have hpw6 : p < w6.heap.size := hps6.lt
            clear HC5 hg6 hxb hps5 hAb hps6
            unfold XR.val
            have hs7 : ((q s3.step).2.need 1 ⟨#[97, 110, 100]⟩).size ≤ N := Nat.le_trans (size_need _ _ _) (by omega)
            obtain ⟨s6, hs6⟩ : ∃ s6, (q s3.step).2 = s6 := ⟨_, rfl⟩
            rw [hs6] at hps7 hgdb HER hs7
            go_wp2_with fail
            have hps8 := fun o => hps7.out.keep ((Gr.refl _).alloc o)
            refine (words_one p (w6.heap.size + 1) ⟨#[97, 110, 100]⟩ s6 _ (hps8 _) (by rw [Rg.blk_cells (show _ = some (Obj.cells #[.string ⟨#[97, 110, 100]⟩] 9 (0, 0)) from (alloc_at' _ _ _ (by simp)))]; rfl)).mono ?_
            rintro e w8 ⟨rfl, hps9, hg8⟩
            have HC8 := hid ((HC6.out.gr ((Gr.refl _).alloc _)).go hg8)
            have HB8 : Hid (Ex.At (fun b => w.heap.size ≤ b ∧ b ≠ w.heap.size) w8 xb rb) := hid (by
              refine ((HB6.out.of ((Gr.refl _).alloc _).size (fun b _ hl => ((Gr.refl _).alloc _).block b hl)).of hg8.size (fun b hb hl => hg8.get hl (by have := hb.1; omega))).mono (fun b _ hb => ⟨hb.1, hb.2.1⟩))
            have hb8 : w8.heap[w6.heap.size]? = some (.cells rb.cells 32 (0, 0)) := by
              rw [hg8.get (by simp; omega) (by omega), ((Gr.refl _).alloc _).block _ (by simp)]
              exact alloc_at _ _
            have hlE := HC8.out.lt
            have hlB : w6.heap.size < w8.heap.size := (Array.getElem?_eq_some_iff.1 hb8).1
            have cE := Rg.blk_cells HC8.out.e
            have cB := Rg.blk_cells hb8
            simp only [XR.cells] at cE cB
            have hpE : E0 ≠ p := by omega
            have hpB : w6.heap.size ≠ p := by omega
            have HQ := hid (fun W0 (h : Gr w8 W0) => hq (s6.need 1 ⟨#[97, 110, 100]⟩) W0 (hps9.keep h) hs7)
            have hz8 := HC8.out.g.size
            have hgd9 : Hid ((q (s6.need 1 ⟨#[97, 110, 100]⟩)).2.good = true → s6.good = true) := hid (fun h => need_good (as_good (hdp _) h))
            clear hps8 hps7 HC6 HB6 hg8 hps9 hb8
            generalize w6.heap.size = B0 at *
            go_wp2_with fail
            refine Rg.region_chain 6 [4, 5] [] (Late2 4 3 32 w8 (fun W0 u W => Rx p W0 (q (s6.need 1 ⟨#[97, 110, 100]⟩)) u W) (CsX (r.cells ++ rb.cells))) [some (.bool n), some (.agg #[.int .i64 r.h.op, .int .i64 r.h.v.t, .int .i64 r.h.v.n, .string r.h.v.s, .bool r.h.v.b, .string r.h.tab, .string r.h.name, .int .i64 r.h.t, .int .i64 r.h.c, .bool r.h.nt, .bool r.h.st, .slice r.oa r.n r.cap]), some (.agg #[.int .i64 rb.h.op, .int .i64 rb.h.v.t, .int .i64 rb.h.v.n, .string rb.h.v.s, .bool rb.h.v.b, .string rb.h.tab, .string rb.h.name, .int .i64 rb.h.t, .int .i64 rb.h.c, .bool rb.h.nt, .bool rb.h.st, .slice rb.oa rb.n rb.cap]), some (.pointer (some ⟨p, 0, none⟩)), none, none]
              (fun v => Late2.s0 ((Gr.refl _).drew)) (by kernel_rfl) (by kernel_rfl) (by kernel_rfl) (by kernel_rfl) (fun _ _ d _ _ h => by cases d <;> exact h) ?_
            intro OPS _ v
            simp only [List.take_succ_cons, List.take_zero, Rg.wpC, Rg.wpS, Option.getD_some, Option.getD_none, Act.put, List.setIfInBounds_toArray, List.set_cons_zero, List.set_cons_succ, show List.contains [4, 5] 0 = false from rfl, show List.contains [4, 5] 1 = false from rfl, show List.contains [4, 5] 2 = false from rfl, show List.contains [4, 5] 3 = false from rfl, show List.contains [4, 5] 4 = true from rfl, show List.contains [4, 5] 5 = true from rfl, Bool.false_eq_true, if_false, if_true, Nat.reduceAdd]
            refine ⟨?_, ?_, ?_, ?_, ?_, ?_, ?_⟩
            · refine sc_still (by rfl) (by rfl) (fun s' W _ hS => ?_)
              have hg := Late2.any (fun _ _ _ h => HRG _ _ _ _ h) hS
              have cW : ∀ i, W.cell? ⟨E0, i, none⟩ = (#[.int .i64 r.h.op, .int .i64 r.h.v.t, .int .i64 r.h.v.n, .string r.h.v.s, .bool r.h.v.b, .string r.h.tab, .string r.h.name, .int .i64 r.h.t, .int .i64 r.h.c, .bool r.h.nt, .bool r.h.st, .slice r.oa r.n r.cap] : Array Value)[i]? := fun i => by rw [hg.cell hlE hpE]; exact cE i
              have cV : ∀ i, W.cell? ⟨B0, i, none⟩ = (#[.int .i64 rb.h.op, .int .i64 rb.h.v.t, .int .i64 rb.h.v.n, .string rb.h.v.s, .bool rb.h.v.b, .string rb.h.tab, .string rb.h.name, .int .i64 rb.h.t, .int .i64 rb.h.c, .bool rb.h.nt, .bool rb.h.st, .slice rb.oa rb.n rb.cap] : Array Value)[i]? := fun i => by rw [hg.cell hlB hpB]; exact cB i
              go_simp
            · refine sc_still (by rfl) (by rfl) (fun s' W _ hS => ?_)
              have hg := Late2.any (fun _ _ _ h => HRG _ _ _ _ h) hS
              have cW : ∀ i, W.cell? ⟨E0, i, none⟩ = (#[.int .i64 r.h.op, .int .i64 r.h.v.t, .int .i64 r.h.v.n, .string r.h.v.s, .bool r.h.v.b, .string r.h.tab, .string r.h.name, .int .i64 r.h.t, .int .i64 r.h.c, .bool r.h.nt, .bool r.h.st, .slice r.oa r.n r.cap] : Array Value)[i]? := fun i => by rw [hg.cell hlE hpE]; exact cE i
              have cV : ∀ i, W.cell? ⟨B0, i, none⟩ = (#[.int .i64 rb.h.op, .int .i64 rb.h.v.t, .int .i64 rb.h.v.n, .string rb.h.v.s, .bool rb.h.v.b, .string rb.h.tab, .string rb.h.name, .int .i64 rb.h.t, .int .i64 rb.h.c, .bool rb.h.nt, .bool rb.h.st, .slice rb.oa rb.n rb.cap] : Array Value)[i]? := fun i => by rw [hg.cell hlB hpB]; exact cB i
              go_simp
            · refine sc_still (by rfl) (by rfl) (fun s' W _ hS => ?_)
              have hg := Late2.any (fun _ _ _ h => HRG _ _ _ _ h) hS
              have cW : ∀ i, W.cell? ⟨E0, i, none⟩ = (#[.int .i64 r.h.op, .int .i64 r.h.v.t, .int .i64 r.h.v.n, .string r.h.v.s, .bool r.h.v.b, .string r.h.tab, .string r.h.name, .int .i64 r.h.t, .int .i64 r.h.c, .bool r.h.nt, .bool r.h.st, .slice r.oa r.n r.cap] : Array Value)[i]? := fun i => by rw [hg.cell hlE hpE]; exact cE i
              have cV : ∀ i, W.cell? ⟨B0, i, none⟩ = (#[.int .i64 rb.h.op, .int .i64 rb.h.v.t, .int .i64 rb.h.v.n, .string rb.h.v.s, .bool rb.h.v.b, .string rb.h.tab, .string rb.h.name, .int .i64 rb.h.t, .int .i64 rb.h.c, .bool rb.h.nt, .bool rb.h.st, .slice rb.oa rb.n rb.cap] : Array Value)[i]? := fun i => by rw [hg.cell hlB hpB]; exact cB i
              go_simp
            · refine sc_still (by rfl) (by rfl) (fun s' W _ hS => ?_)
              have hg := Late2.any (fun _ _ _ h => HRG _ _ _ _ h) hS
              have cW : ∀ i, W.cell? ⟨E0, i, none⟩ = (#[.int .i64 r.h.op, .int .i64 r.h.v.t, .int .i64 r.h.v.n, .string r.h.v.s, .bool r.h.v.b, .string r.h.tab, .string r.h.name, .int .i64 r.h.t, .int .i64 r.h.c, .bool r.h.nt, .bool r.h.st, .slice r.oa r.n r.cap] : Array Value)[i]? := fun i => by rw [hg.cell hlE hpE]; exact cE i
              have cV : ∀ i, W.cell? ⟨B0, i, none⟩ = (#[.int .i64 rb.h.op, .int .i64 rb.h.v.t, .int .i64 rb.h.v.n, .string rb.h.v.s, .bool rb.h.v.b, .string rb.h.tab, .string rb.h.name, .int .i64 rb.h.t, .int .i64 rb.h.c, .bool rb.h.nt, .bool rb.h.st, .slice rb.oa rb.n rb.cap] : Array Value)[i]? := fun i => by rw [hg.cell hlB hpB]; exact cB i
              go_simp
            · refine sc_new (by rfl) (by rfl) (fun W hS => ?_)
              have hg := Late2.g0 hS
              go_simp
              refine (HQ.out W hg).mono ?_
              rintro e w' ⟨u, rfl, hu⟩
              exact ⟨u, rfl, Late2.s1 ⟨W, hg, by rw [upd_same]; exact hu⟩⟩
            · refine sc_new (by rfl) (by rfl) (fun W hS => ?_)
              obtain ⟨W0, hg0, hRx⟩ := Late2.g1 hS
              have hRx2 := hRx
              obtain ⟨ry, y, hv, _⟩ := hRx2
              have hK := hid (Late2.s2 (RX := fun W0 u W => Rx p W0 (q (s6.need 1 ⟨#[97, 110, 100]⟩)) u W) (m := 3) (T := 32) (CS := CsX (r.cells ++ rb.cells)) (v := v) (cs := #[.int .i64 r.h.op, .int .i64 r.h.v.t, .int .i64 r.h.v.n, .string r.h.v.s, .bool r.h.v.b, .string r.h.tab, .string r.h.name, .int .i64 r.h.t, .int .i64 r.h.c, .bool r.h.nt, .bool r.h.st, .slice r.oa r.n r.cap, .int .i64 rb.h.op, .int .i64 rb.h.v.t, .int .i64 rb.h.v.n, .string rb.h.v.s, .bool rb.h.v.b, .string rb.h.tab, .string rb.h.name, .int .i64 rb.h.t, .int .i64 rb.h.c, .bool rb.h.nt, .bool rb.h.st, .slice rb.oa rb.n rb.cap, .int .i64 ry.h.op, .int .i64 ry.h.v.t, .int .i64 ry.h.v.n, .string ry.h.v.s, .bool ry.h.v.b, .string ry.h.tab, .string ry.h.name, .int .i64 ry.h.t, .int .i64 ry.h.c, .bool ry.h.nt, .bool ry.h.st, .slice ry.oa ry.n ry.cap]) hg0 hRx ⟨ry, hv, by simp [XR.cells]⟩)
              unfold XR.val at hv
              rw [hv]
              clear hRx hS hg0 hv
              go_simp
              exact hK.out
            · intro W9 hS
              obtain ⟨W0, W, cs, hg0, hRx, ⟨ry2, hv4, hcs0⟩, rfl, hv5⟩ := Late2.g2 hS
              have hgW := (Go1.of hg0).trans (HRG _ _ _ _ hRx)
              generalize v 4 = vv at *
              generalize v 5 = vw at *
              subst hv5
              obtain ⟨ry, y, hry, hy, hpy, hgy, hyg⟩ := hRx
              have hrr : ry = ry2 := xr_inj (hry.symm.trans hv4)
              subst hrr
              have hcs := hid hcs0
              clear hv4 hcs0
              subst hry
              simp only [List.drop_succ_cons, List.drop_zero]
              have hz0 := hg0.size
              have hzy := hgy.size
              have hc3 := HC8.out.go hgW
              have hA := (Gr.refl W).alloc (.cells cs 32)
              have hc4 := hc3.gr hA
              have FI : Hid (∀ W5, Go1 w.heap.size (W.alloc (.cells cs 32)) W5 → Rx p w R (XR.val ⟨{ op := 17, nt := n }, some ⟨W.heap.size, 0, none⟩, 3, 3⟩) W5) := hid (fun W5 h5 => by
                rw [HER.out]
                refine CB.giveG hc4 (x' := .mk { op := 17, nt := n } [x, xb, y]) (formN (rs := [r, rb, ry]) ⟨by omega, by omega⟩ (alloc_at _ _) (by rw [hcs.out]; simp [cellsF, xF]) (Exs.At.cons hc4.at (Exs.At.cons ?_ (Exs.At.cons ?_ Exs.At.nil))) (fit_le _ (by simp))) (hpy.keep hA) (fun h => ?_) h5
                · exact (HB8.out.of hgW.size (fun b hb hl => hgW.get hl (by have := hb.1; omega))).of hA.size (fun b _ hl => hA.block b hl)
                · exact (hy.of hA.size (fun b hb hl => hA.block b hl)).mono (fun b _ hb => by have : W0.heap.size ≤ b := hb; exact ⟨by omega, by omega⟩)
                · rw [hyg h, hgd3.out hsc, hgdb (hgd9.out h)])
              have H05 := hid hc4.z
              clear hcs hy hpy hgy hyg hgW hS hg0 hc3 hc4 hA HC8 HB8 HQ HER
              go_wp2_with (guard_target =~ wpList _ _ _ (Oper.mk _ (Op.store 32 _ _) _ _ _ _ :: _) _ _; refine st_row (ty := 32) rfl rfl w.heap.size _ rfl rfl 32 _ (H05.out) (by kernel_rfl) rfl (by kernel_rfl) ?_; intro W5 hW5 gW5 zW5)
              (try change bodyPost _ _ _ _ _ _)
              have hT := Rg.blk_cells hW5
              refine bodyPost_ret (v := XR.val ⟨{ op := 17, nt := n }, some ⟨W.heap.size, 0, none⟩, 3, 3⟩) (by simp [results, Try.results68, go_sem, XR.val, nul, hT]; try rfl) rfl ⟨_, rfl, FI.out W5 gW5⟩
          | false =>
            have e2 : (s3.may 1 ⟨#[98, 101, 116, 119, 101, 101, 110]⟩).2 = s3 := by simp [Ps.may, hBt]
            rw [e2] at hps5
            clear e2
            have HER : Hid (R = (if n then (a, s3.fail 180) else (a, s3))) := hid (by rw [HT2.out, hBt]; rfl)
            clear HT2 hBt
            cases n with
            | true =>
              go_wp2_with fail
              refine (wrong_any p s3 _ hps5).mono ?_
              rintro e w6 ⟨rfl, hps6, hg6⟩
              have HC6 := hid (HC5.out.go hg6)
              clear HC5 hg6 hps5
              have HGF : Hid ((s3.fail 180).good = true → x = a) := hid (fun h => absurd h (fail_no s3))
              have FI : Hid (∀ W5, Go1 w.heap.size w6 W5 → Rx p w R (XR.val r) W5) := hid (fun W5 h5 => by
                rw [HER.out]
                exact CB.giveG (R := (a, s3.fail 180)) HC6.out HC6.out.at hps6 (fun h => by rw [HGF.out h]) h5)
              have cE := Rg.blk_cells HC6.out.e
              simp only [XR.cells] at cE
              have H05 := hid HC6.out.z
              clear HC6 hps6
              go_wp2_with (guard_target =~ wpList _ _ _ (Oper.mk _ (Op.store 32 _ _) _ _ _ _ :: _) _ _; refine st_row (ty := 32) rfl rfl w.heap.size _ rfl rfl 32 _ (H05.out) (by kernel_rfl) rfl (by kernel_rfl) ?_; intro W5 hW5 gW5 zW5)
              (try change bodyPost _ _ _ _ _ _)
              have hT := Rg.blk_cells hW5
              refine bodyPost_ret (v := XR.val r) (by simp [results, Try.results68, go_sem, XR.val, nul, hT]; try rfl) rfl ⟨_, rfl, FI.out W5 gW5⟩
            | false =>
              have FI : Hid (∀ W5, Go1 w.heap.size w5 W5 → Rx p w R (XR.val r) W5) := hid (fun W5 h5 => by
                rw [HER.out]
                exact CB.giveG (R := (a, s3)) HC5.out HC5.out.at hps5 (fun h => by rw [hgd3.out h]) h5)
              have cE := Rg.blk_cells HC5.out.e
              simp only [XR.cells] at cE
              have H05 := hid HC5.out.z
              clear HC5 hps5
              go_wp2_with (guard_target =~ wpList _ _ _ (Oper.mk _ (Op.store 32 _ _) _ _ _ _ :: _) _ _; refine st_row (ty := 32) rfl rfl w.heap.size _ rfl rfl 32 _ (H05.out) (by kernel_rfl) rfl (by kernel_rfl) ?_; intro W5 hW5 gW5 zW5)
              (try change bodyPost _ _ _ _ _ _)
              have hT := Rg.blk_cells hW5
              refine bodyPost_ret (v := XR.val r) (by simp [results, Try.results68, go_sem, XR.val, nul, hT]; try rfl) rfl ⟨_, rfl, FI.out W5 gW5⟩
end Go.Proofs.Ytaogpifcfmjcbaa
end
section
namespace Go.Proofs.Ytaogpifcfmjcbaa
open Go.RowKit
set_option linter.unusedSimpArgs false
set_option linter.unusedVariables false
attribute [local go_sem] Rg.leads_value Rg.leads_skip Rg.leads_enter Rg.brings_value Rg.brings_skip Rg.brings_enter Rg.bringsG_value Rg.bringsG_enter Rg.once_normal Rg.once_exit Rg.once_ret Rg.once_panic Rg.once_goto Rg.bringsS_value Rg.bringsS_skip Rg.bringsS_enter Rg.still_value Rg.still_skip Rg.still_enter
set_option maxHeartbeats 4000000 in
set_option maxRecDepth 100000 in
theorem and_any (q : Pa Ex) (p N : Nat) (hq : Rd 62 q p N) (hn : NI q) : Rd 44 (ands q) p N := by
  intro s w hS hsN
  have hpw := hS.lt
  have hS0 := fun o => hS.keep ((Gr.refl w).alloc o)
  obtain ⟨R, hR⟩ : ∃ R, ands q s = R := ⟨_, rfl⟩
  rw [hR]
  have HR := hid hR
  clear hR
  go_enter Try.func44, Try.ntmps44
  go_wp2_with fail
  refine (hq s _ (hS0 _) hsN).mono ?_
  rintro e w1 ⟨u, rfl, r, x, rfl, hx, hps, hgo, hgd⟩
  have hst := hid (LfRel.start hpw hx hps hgo hgd hn hsN HR.out)
  have hz1 := hgo.size
  simp only [World.size_alloc] at hz1
  clear hx hps hgo hgd hS0 HR
  unfold XR.val
  go_wp2_with fail
  generalize Value.agg _ = uu
  have hE : w.heap.size < w1.heap.size := by omega
  generalize w1.heap.size = E at *
  go_loopw [] (fun wr => LfRel [(⟨#[97, 110, 100]⟩, 7)] 1 q p N w w.heap.size E R wr) (fun wr => lenAt p wr)
  · exact hst.out
  · clear hst
    obtain ⟨r, x, x0, s, n, hbE, hb0, hx, hxs, hR, hsn, hsN, hps, hgo⟩ := hrel
    have hEl : E < wr.heap.size := (Array.getElem?_eq_some_iff.1 hbE).1
    have hg1 := Go1.refl p wr
    have hps1 := hps
    go_wp2_with fail
    refine (word_any p ⟨#[97, 110, 100]⟩ s wr hps1).mono ?_
    rintro e w2 ⟨rfl, hps2, ht2⟩
    have hg2 := hg1.trans ht2
    clear ht2 hg1 hps1
    cases hB0 : s.is 1 ⟨#[97, 110, 100]⟩ with
    | true =>
      have e2 : (s.may 1 ⟨#[97, 110, 100]⟩).2 = s.step := by simp [Ps.may, hB0]
      rw [e2] at hps2
      have hf : (([(⟨#[97, 110, 100]⟩, 7)]) : List (ByteArray × Int)).find? (fun o => s.is 1 o.1) = some (⟨#[97, 110, 100]⟩, 7) := by simp [hB0]
      obtain ⟨hs1, hs2, hs3⟩ := is_step hB0 (by decide)
      have hEW2 : w2.heap[E]? = _ := (hg2.get hEl (by omega)).trans hbE
      have NX := fun W0 W W4 ry y (h1 : Gr w2 W0) h2 h3 h4 h5 cs hcat h6 => LfRel.next (W0 := W0) (W := W) (W4 := W4) (ry := ry) (y := y) (b0 := .int .i64 7) (b1 := .int .i64 0) (b2 := .int .i64 0) (b3 := .string ⟨#[]⟩) (b4 := .bool false) (b5 := .string ⟨#[]⟩) (b6 := .string ⟨#[]⟩) (b7 := .int .i64 0) (b8 := .int .i64 0) (b9 := .bool false) (b10 := .bool false) (b11 := .slice (some ⟨W.heap.size, 0, none⟩) 2 2) (by decide) hpw rfl hE hbE hb0 hx hxs hR hsn hsN hgo hf hn hg2 h1 h2 h3 h4 h5 (cs := cs) hcat h6 rfl
      have cE := Rg.blk_cells hEW2
      simp only [XR.cells] at cE
      have LA : Hid (lenAt p wr = s.size) := hid (lenAt_ps hps)
      have HQ := hid (fun W0 (h : Gr w2 W0) => hq s.step W0 (hps2.keep h) (by omega))
      have hE2l : E < w2.heap.size := Nat.lt_of_lt_of_le hEl hg2.size
      have hpE : E ≠ p := by omega
      have H0 := hid hEW2
      have HNX := hid NX
      clear NX hEW2 hps2 hps hx hxs hR hbE hb0 hgo hg2 hB0 e2 hf
      go_wp2_with fail
      refine Rg.region_chain 3 [2] [] (Late 2 w2 (fun W0 u W => Rx p W0 (q s.step) u W)) [some (.agg #[.int .i64 r.h.op, .int .i64 r.h.v.t, .int .i64 r.h.v.n, .string r.h.v.s, .bool r.h.v.b, .string r.h.tab, .string r.h.name, .int .i64 r.h.t, .int .i64 r.h.c, .bool r.h.nt, .bool r.h.st, .slice r.oa r.n r.cap]), some (.pointer (some ⟨p, 0, none⟩)), none]
        (fun v => late0 ((Gr.refl _).drew)) (by kernel_rfl) (by kernel_rfl) (by kernel_rfl) (by kernel_rfl) (fun _ _ d _ _ h => by cases d <;> exact h) ?_
      intro OPS _ v
      simp only [List.take_succ_cons, List.take_zero, Rg.wpC, Option.getD_some, Option.getD_none, Act.put, List.setIfInBounds_toArray, List.set_cons_zero, List.set_cons_succ, show List.contains [2] 0 = false from rfl, show List.contains [2] 1 = false from rfl, show List.contains [2] 2 = true from rfl, Bool.false_eq_true, if_false, if_true, Nat.reduceAdd]
      refine ⟨?_, ?_, ?_, ?_⟩
      · refine sc_still (by rfl) (by rfl) (fun s' W _ hS => ?_)
        have hg := late_any (fun _ _ _ h => Rx.go h) hS
        have cW : ∀ i, W.cell? ⟨E, i, none⟩ = (#[.int .i64 r.h.op, .int .i64 r.h.v.t, .int .i64 r.h.v.n, .string r.h.v.s, .bool r.h.v.b, .string r.h.tab, .string r.h.name, .int .i64 r.h.t, .int .i64 r.h.c, .bool r.h.nt, .bool r.h.st, .slice r.oa r.n r.cap] : Array Value)[i]? := fun i => by rw [hg.cell hE2l hpE]; exact cE i
        go_simp
      · refine sc_still (by rfl) (by rfl) (fun s' W _ hS => ?_)
        go_simp
      · refine sc_new (by rfl) (by rfl) (fun W hS => ?_)
        have hg := late_0 hS
        go_simp
        refine (HQ.out W hg).mono ?_
        rintro e w' ⟨u, rfl, hu⟩
        exact ⟨u, rfl, late1 ⟨W, hg, by rw [upd_same]; exact hu⟩⟩
      · intro W hS
        have hgW := late_any (fun _ _ _ h => Rx.go h) hS
        obtain ⟨W0, hg0, hRx⟩ := late_1 hS
        generalize v 2 = vv at *
        obtain ⟨ry, y, rfl, hy, hpy, hgy, hyg⟩ := hRx
        simp only [List.drop_succ_cons, List.drop_zero]
        have NX2 := hid (fun W4 => HNX.out W0 W W4 ry y hg0 hy hpy hgy hyg _ rfl)
        have hEW := (hgW.get hE2l hpE).trans H0.out
        have hElW : E < W.heap.size := (Array.getElem?_eq_some_iff.1 hEW).1
        clear hg0 hy hpy hgy hyg HNX HQ hgW hS
        unfold XR.val
        go_wp2_with fail
        refine (tree_any _ _ _ _ _).mono ?_
        rintro e W4 ⟨rfl, h4⟩
        obtain ⟨hnx, hlt⟩ := NX2.out W4 h4
        have HX := hid hnx
        have hE4 : W4.heap[E]? = some (.cells #[.int .i64 r.h.op, .int .i64 r.h.v.t, .int .i64 r.h.v.n, .string r.h.v.s, .bool r.h.v.b, .string r.h.tab, .string r.h.name, .int .i64 r.h.t, .int .i64 r.h.c, .bool r.h.nt, .bool r.h.st, .slice r.oa r.n r.cap] 32) := by rw [h4.block _ (by simp; omega)]; rw [((Gr.refl W).alloc _).block _ hElW]; exact hEW
        have c4 := Rg.blk_cells hE4
        have f4 := Rg.blk_free hE4
        clear hnx NX2 h4 hEW hE4 H0
        unfold XR.val
        go_wp2
        exact ⟨HX.out, by rw [LA.out]; exact hlt⟩
    | false =>
      have e2 : (s.may 1 ⟨#[97, 110, 100]⟩).2 = s := by simp [Ps.may, hB0]
      rw [e2] at hps2
      clear e2
      have h0W : w2.heap[w.heap.size]? = _ := (hg2.get (by omega) (by omega)).trans hb0
      have hEW2 : w2.heap[E]? = _ := (hg2.get hEl (by omega)).trans hbE
      have FI := hid (LfRel.done (E := E) hpw rfl hx hxs hR hgo (by simp [hB0]) hg2 hps2)
      have cE := Rg.blk_cells hEW2
      have c0 := Rg.blk_cells h0W
      simp only [XR.cells] at c0 cE h0W
      have f0 := Rg.blk_free h0W
      have hz2 := hg2.size
      clear hEW2 hps2 hps hgo hg2 hx hxs hR hbE hb0
      go_wp2
      (try change bodyPost _ _ _ _ _ _)
      generalize hW5 : World.setCell _ _ _ = W5
      have hT := cells12 h0W hW5
      have hF := Rx.at12 FI.out hW5
      clear hW5 h0W FI
      refine bodyPost_ret (v := XR.val r) (by simp [results, Try.results44, go_sem, XR.val, nul, hT]; try rfl) rfl ⟨_, rfl, hF⟩
set_option maxHeartbeats 4000000 in
set_option maxRecDepth 100000 in
theorem or_any (q : Pa Ex) (p N : Nat) (hq : Rd 44 q p N) (hn : NI q) : Rd 18 (ors q) p N := by
  intro s w hS hsN
  have hpw := hS.lt
  have hS0 := fun o => hS.keep ((Gr.refl w).alloc o)
  obtain ⟨R, hR⟩ : ∃ R, ors q s = R := ⟨_, rfl⟩
  rw [hR]
  have HR := hid hR
  clear hR
  go_enter Try.func18, Try.ntmps18
  go_wp2_with fail
  refine (hq s _ (hS0 _) hsN).mono ?_
  rintro e w1 ⟨u, rfl, r, x, rfl, hx, hps, hgo, hgd⟩
  have hst := hid (LfRel.start hpw hx hps hgo hgd hn hsN HR.out)
  have hz1 := hgo.size
  simp only [World.size_alloc] at hz1
  clear hx hps hgo hgd hS0 HR
  unfold XR.val
  go_wp2_with fail
  generalize Value.agg _ = uu
  have hE : w.heap.size < w1.heap.size := by omega
  generalize w1.heap.size = E at *
  go_loopw [] (fun wr => LfRel [(⟨#[111, 114]⟩, 6)] 1 q p N w w.heap.size E R wr) (fun wr => lenAt p wr)
  · exact hst.out
  · clear hst
    obtain ⟨r, x, x0, s, n, hbE, hb0, hx, hxs, hR, hsn, hsN, hps, hgo⟩ := hrel
    have hEl : E < wr.heap.size := (Array.getElem?_eq_some_iff.1 hbE).1
    have hg1 := Go1.refl p wr
    have hps1 := hps
    go_wp2_with fail
    refine (word_any p ⟨#[111, 114]⟩ s wr hps1).mono ?_
    rintro e w2 ⟨rfl, hps2, ht2⟩
    have hg2 := hg1.trans ht2
    clear ht2 hg1 hps1
    cases hB0 : s.is 1 ⟨#[111, 114]⟩ with
    | true =>
      have e2 : (s.may 1 ⟨#[111, 114]⟩).2 = s.step := by simp [Ps.may, hB0]
      rw [e2] at hps2
      have hf : (([(⟨#[111, 114]⟩, 6)]) : List (ByteArray × Int)).find? (fun o => s.is 1 o.1) = some (⟨#[111, 114]⟩, 6) := by simp [hB0]
      obtain ⟨hs1, hs2, hs3⟩ := is_step hB0 (by decide)
      have hEW2 : w2.heap[E]? = _ := (hg2.get hEl (by omega)).trans hbE
      have NX := fun W0 W W4 ry y (h1 : Gr w2 W0) h2 h3 h4 h5 cs hcat h6 => LfRel.next (W0 := W0) (W := W) (W4 := W4) (ry := ry) (y := y) (b0 := .int .i64 6) (b1 := .int .i64 0) (b2 := .int .i64 0) (b3 := .string ⟨#[]⟩) (b4 := .bool false) (b5 := .string ⟨#[]⟩) (b6 := .string ⟨#[]⟩) (b7 := .int .i64 0) (b8 := .int .i64 0) (b9 := .bool false) (b10 := .bool false) (b11 := .slice (some ⟨W.heap.size, 0, none⟩) 2 2) (by decide) hpw rfl hE hbE hb0 hx hxs hR hsn hsN hgo hf hn hg2 h1 h2 h3 h4 h5 (cs := cs) hcat h6 rfl
      have cE := Rg.blk_cells hEW2
      simp only [XR.cells] at cE
      have LA : Hid (lenAt p wr = s.size) := hid (lenAt_ps hps)
      have HQ := hid (fun W0 (h : Gr w2 W0) => hq s.step W0 (hps2.keep h) (by omega))
      have hE2l : E < w2.heap.size := Nat.lt_of_lt_of_le hEl hg2.size
      have hpE : E ≠ p := by omega
      have H0 := hid hEW2
      have HNX := hid NX
      clear NX hEW2 hps2 hps hx hxs hR hbE hb0 hgo hg2 hB0 e2 hf
      go_wp2_with fail
      refine Rg.region_chain 3 [2] [] (Late 2 w2 (fun W0 u W => Rx p W0 (q s.step) u W)) [some (.agg #[.int .i64 r.h.op, .int .i64 r.h.v.t, .int .i64 r.h.v.n, .string r.h.v.s, .bool r.h.v.b, .string r.h.tab, .string r.h.name, .int .i64 r.h.t, .int .i64 r.h.c, .bool r.h.nt, .bool r.h.st, .slice r.oa r.n r.cap]), some (.pointer (some ⟨p, 0, none⟩)), none]
        (fun v => late0 ((Gr.refl _).drew)) (by kernel_rfl) (by kernel_rfl) (by kernel_rfl) (by kernel_rfl) (fun _ _ d _ _ h => by cases d <;> exact h) ?_
      intro OPS _ v
      simp only [List.take_succ_cons, List.take_zero, Rg.wpC, Option.getD_some, Option.getD_none, Act.put, List.setIfInBounds_toArray, List.set_cons_zero, List.set_cons_succ, show List.contains [2] 0 = false from rfl, show List.contains [2] 1 = false from rfl, show List.contains [2] 2 = true from rfl, Bool.false_eq_true, if_false, if_true, Nat.reduceAdd]
      refine ⟨?_, ?_, ?_, ?_⟩
      · refine sc_still (by rfl) (by rfl) (fun s' W _ hS => ?_)
        have hg := late_any (fun _ _ _ h => Rx.go h) hS
        have cW : ∀ i, W.cell? ⟨E, i, none⟩ = (#[.int .i64 r.h.op, .int .i64 r.h.v.t, .int .i64 r.h.v.n, .string r.h.v.s, .bool r.h.v.b, .string r.h.tab, .string r.h.name, .int .i64 r.h.t, .int .i64 r.h.c, .bool r.h.nt, .bool r.h.st, .slice r.oa r.n r.cap] : Array Value)[i]? := fun i => by rw [hg.cell hE2l hpE]; exact cE i
        go_simp
      · refine sc_still (by rfl) (by rfl) (fun s' W _ hS => ?_)
        go_simp
      · refine sc_new (by rfl) (by rfl) (fun W hS => ?_)
        have hg := late_0 hS
        go_simp
        refine (HQ.out W hg).mono ?_
        rintro e w' ⟨u, rfl, hu⟩
        exact ⟨u, rfl, late1 ⟨W, hg, by rw [upd_same]; exact hu⟩⟩
      · intro W hS
        have hgW := late_any (fun _ _ _ h => Rx.go h) hS
        obtain ⟨W0, hg0, hRx⟩ := late_1 hS
        generalize v 2 = vv at *
        obtain ⟨ry, y, rfl, hy, hpy, hgy, hyg⟩ := hRx
        simp only [List.drop_succ_cons, List.drop_zero]
        have NX2 := hid (fun W4 => HNX.out W0 W W4 ry y hg0 hy hpy hgy hyg _ rfl)
        have hEW := (hgW.get hE2l hpE).trans H0.out
        have hElW : E < W.heap.size := (Array.getElem?_eq_some_iff.1 hEW).1
        clear hg0 hy hpy hgy hyg HNX HQ hgW hS
        unfold XR.val
        go_wp2_with fail
        refine (tree_any _ _ _ _ _).mono ?_
        rintro e W4 ⟨rfl, h4⟩
        obtain ⟨hnx, hlt⟩ := NX2.out W4 h4
        have HX := hid hnx
        have hE4 : W4.heap[E]? = some (.cells #[.int .i64 r.h.op, .int .i64 r.h.v.t, .int .i64 r.h.v.n, .string r.h.v.s, .bool r.h.v.b, .string r.h.tab, .string r.h.name, .int .i64 r.h.t, .int .i64 r.h.c, .bool r.h.nt, .bool r.h.st, .slice r.oa r.n r.cap] 32) := by rw [h4.block _ (by simp; omega)]; rw [((Gr.refl W).alloc _).block _ hElW]; exact hEW
        have c4 := Rg.blk_cells hE4
        have f4 := Rg.blk_free hE4
        clear hnx NX2 h4 hEW hE4 H0
        unfold XR.val
        go_wp2
        exact ⟨HX.out, by rw [LA.out]; exact hlt⟩
    | false =>
      have e2 : (s.may 1 ⟨#[111, 114]⟩).2 = s := by simp [Ps.may, hB0]
      rw [e2] at hps2
      clear e2
      have h0W : w2.heap[w.heap.size]? = _ := (hg2.get (by omega) (by omega)).trans hb0
      have hEW2 : w2.heap[E]? = _ := (hg2.get hEl (by omega)).trans hbE
      have FI := hid (LfRel.done (E := E) hpw rfl hx hxs hR hgo (by simp [hB0]) hg2 hps2)
      have cE := Rg.blk_cells hEW2
      have c0 := Rg.blk_cells h0W
      simp only [XR.cells] at c0 cE h0W
      have f0 := Rg.blk_free h0W
      have hz2 := hg2.size
      clear hEW2 hps2 hps hgo hg2 hx hxs hR hbE hb0
      go_wp2
      (try change bodyPost _ _ _ _ _ _)
      generalize hW5 : World.setCell _ _ _ = W5
      have hT := cells12 h0W hW5
      have hF := Rx.at12 FI.out hW5
      clear hW5 h0W FI
      refine bodyPost_ret (v := XR.val r) (by simp [results, Try.results18, go_sem, XR.val, nul, hT]; try rfl) rfl ⟨_, rfl, hF⟩
set_option maxHeartbeats 4000000 in
set_option maxRecDepth 100000 in
theorem product_any (q : Pa Ex) (p N : Nat) (hq : Rd 81 q p N) (hn : NI q) : Rd 79 (prods q) p N := by
  intro s w hS hsN
  have hpw := hS.lt
  have hS0 := fun o => hS.keep ((Gr.refl w).alloc o)
  obtain ⟨R, hR⟩ : ∃ R, prods q s = R := ⟨_, rfl⟩
  rw [hR]
  have HR := hid hR
  clear hR
  go_enter Try.func79, Try.ntmps79
  go_wp2_with fail
  refine (hq s _ (hS0 _) hsN).mono ?_
  rintro e w1 ⟨u, rfl, r, x, rfl, hx, hps, hgo, hgd⟩
  have hst := hid (LfRel.start hpw hx hps hgo hgd hn hsN HR.out)
  have hz1 := hgo.size
  simp only [World.size_alloc] at hz1
  clear hx hps hgo hgd hS0 HR
  unfold XR.val
  go_wp2_with fail
  generalize Value.agg _ = uu
  have hE : w.heap.size < w1.heap.size := by omega
  generalize w1.heap.size = E at *
  go_loopw [] (fun wr => LfRel [(⟨#[42]⟩, 20), (⟨#[47]⟩, 21), (⟨#[37]⟩, 22)] 4 q p N w w.heap.size E R wr) (fun wr => lenAt p wr)
  · exact hst.out
  · clear hst
    obtain ⟨r, x, x0, s, n, hbE, hb0, hx, hxs, hR, hsn, hsN, hps, hgo⟩ := hrel
    have hEl : E < wr.heap.size := (Array.getElem?_eq_some_iff.1 hbE).1
    have hg1 := Go1.refl p wr
    have hps1 := hps
    go_wp2_with fail
    refine (sign_any' p ⟨#[42]⟩ s wr hps1).mono ?_
    rintro e w2 ⟨rfl, hps2, ht2⟩
    have hg2 := hg1.trans ht2
    clear ht2 hg1 hps1
    cases hB0 : s.is 4 ⟨#[42]⟩ with
    | true =>
      have e2 : (s.may 4 ⟨#[42]⟩).2 = s.step := by simp [Ps.may, hB0]
      rw [e2] at hps2
      have hf : (([(⟨#[42]⟩, 20), (⟨#[47]⟩, 21), (⟨#[37]⟩, 22)]) : List (ByteArray × Int)).find? (fun o => s.is 4 o.1) = some (⟨#[42]⟩, 20) := by simp [hB0]
      obtain ⟨hs1, hs2, hs3⟩ := is_step hB0 (by decide)
      have hEW2 : w2.heap[E]? = _ := (hg2.get hEl (by omega)).trans hbE
      have NX := fun W0 W W4 ry y (h1 : Gr w2 W0) h2 h3 h4 h5 cs hcat h6 => LfRel.next (W0 := W0) (W := W) (W4 := W4) (ry := ry) (y := y) (b0 := .int .i64 20) (b1 := .int .i64 0) (b2 := .int .i64 0) (b3 := .string ⟨#[]⟩) (b4 := .bool false) (b5 := .string ⟨#[]⟩) (b6 := .string ⟨#[]⟩) (b7 := .int .i64 0) (b8 := .int .i64 0) (b9 := .bool false) (b10 := .bool false) (b11 := .slice (some ⟨W.heap.size, 0, none⟩) 2 2) (by decide) hpw rfl hE hbE hb0 hx hxs hR hsn hsN hgo hf hn hg2 h1 h2 h3 h4 h5 (cs := cs) hcat h6 rfl
      have cE := Rg.blk_cells hEW2
      simp only [XR.cells] at cE
      have LA : Hid (lenAt p wr = s.size) := hid (lenAt_ps hps)
      have HQ := hid (fun W0 (h : Gr w2 W0) => hq s.step W0 (hps2.keep h) (by omega))
      have hE2l : E < w2.heap.size := Nat.lt_of_lt_of_le hEl hg2.size
      have hpE : E ≠ p := by omega
      have H0 := hid hEW2
      have HNX := hid NX
      clear NX hEW2 hps2 hps hx hxs hR hbE hb0 hgo hg2 hB0 e2 hf
      go_wp2_with fail
      refine Rg.region_chain 3 [2] [] (Late 2 w2 (fun W0 u W => Rx p W0 (q s.step) u W)) [some (.agg #[.int .i64 r.h.op, .int .i64 r.h.v.t, .int .i64 r.h.v.n, .string r.h.v.s, .bool r.h.v.b, .string r.h.tab, .string r.h.name, .int .i64 r.h.t, .int .i64 r.h.c, .bool r.h.nt, .bool r.h.st, .slice r.oa r.n r.cap]), some (.pointer (some ⟨p, 0, none⟩)), none]
        (fun v => late0 ((Gr.refl _).drew)) (by kernel_rfl) (by kernel_rfl) (by kernel_rfl) (by kernel_rfl) (fun _ _ d _ _ h => by cases d <;> exact h) ?_
      intro OPS _ v
      simp only [List.take_succ_cons, List.take_zero, Rg.wpC, Option.getD_some, Option.getD_none, Act.put, List.setIfInBounds_toArray, List.set_cons_zero, List.set_cons_succ, show List.contains [2] 0 = false from rfl, show List.contains [2] 1 = false from rfl, show List.contains [2] 2 = true from rfl, Bool.false_eq_true, if_false, if_true, Nat.reduceAdd]
      refine ⟨?_, ?_, ?_, ?_⟩
      · refine sc_still (by rfl) (by rfl) (fun s' W _ hS => ?_)
        have hg := late_any (fun _ _ _ h => Rx.go h) hS
        have cW : ∀ i, W.cell? ⟨E, i, none⟩ = (#[.int .i64 r.h.op, .int .i64 r.h.v.t, .int .i64 r.h.v.n, .string r.h.v.s, .bool r.h.v.b, .string r.h.tab, .string r.h.name, .int .i64 r.h.t, .int .i64 r.h.c, .bool r.h.nt, .bool r.h.st, .slice r.oa r.n r.cap] : Array Value)[i]? := fun i => by rw [hg.cell hE2l hpE]; exact cE i
        go_simp
      · refine sc_still (by rfl) (by rfl) (fun s' W _ hS => ?_)
        go_simp
      · refine sc_new (by rfl) (by rfl) (fun W hS => ?_)
        have hg := late_0 hS
        go_simp
        refine (HQ.out W hg).mono ?_
        rintro e w' ⟨u, rfl, hu⟩
        exact ⟨u, rfl, late1 ⟨W, hg, by rw [upd_same]; exact hu⟩⟩
      · intro W hS
        have hgW := late_any (fun _ _ _ h => Rx.go h) hS
        obtain ⟨W0, hg0, hRx⟩ := late_1 hS
        generalize v 2 = vv at *
        obtain ⟨ry, y, rfl, hy, hpy, hgy, hyg⟩ := hRx
        simp only [List.drop_succ_cons, List.drop_zero]
        have NX2 := hid (fun W4 => HNX.out W0 W W4 ry y hg0 hy hpy hgy hyg _ rfl)
        have hEW := (hgW.get hE2l hpE).trans H0.out
        have hElW : E < W.heap.size := (Array.getElem?_eq_some_iff.1 hEW).1
        clear hg0 hy hpy hgy hyg HNX HQ hgW hS
        unfold XR.val
        go_wp2_with fail
        refine (tree_any _ _ _ _ _).mono ?_
        rintro e W4 ⟨rfl, h4⟩
        obtain ⟨hnx, hlt⟩ := NX2.out W4 h4
        have HX := hid hnx
        have hE4 : W4.heap[E]? = some (.cells #[.int .i64 r.h.op, .int .i64 r.h.v.t, .int .i64 r.h.v.n, .string r.h.v.s, .bool r.h.v.b, .string r.h.tab, .string r.h.name, .int .i64 r.h.t, .int .i64 r.h.c, .bool r.h.nt, .bool r.h.st, .slice r.oa r.n r.cap] 32) := by rw [h4.block _ (by simp; omega)]; rw [((Gr.refl W).alloc _).block _ hElW]; exact hEW
        have c4 := Rg.blk_cells hE4
        have f4 := Rg.blk_free hE4
        clear hnx NX2 h4 hEW hE4 H0
        unfold XR.val
        go_wp2
        exact ⟨HX.out, by rw [LA.out]; exact hlt⟩
    | false =>
      have e2 : (s.may 4 ⟨#[42]⟩).2 = s := by simp [Ps.may, hB0]
      rw [e2] at hps2
      clear e2
      go_wp2_with fail
      refine (sign_any' p ⟨#[47]⟩ s w2 hps2).mono ?_
      rintro e w3 ⟨rfl, hps3, ht3⟩
      have hg3 := hg2.trans ht3
      clear ht3 hg2 hps2
      cases hB1 : s.is 4 ⟨#[47]⟩ with
      | true =>
        have e2 : (s.may 4 ⟨#[47]⟩).2 = s.step := by simp [Ps.may, hB1]
        rw [e2] at hps3
        have hf : (([(⟨#[42]⟩, 20), (⟨#[47]⟩, 21), (⟨#[37]⟩, 22)]) : List (ByteArray × Int)).find? (fun o => s.is 4 o.1) = some (⟨#[47]⟩, 21) := by simp [hB0, hB1]
        obtain ⟨hs1, hs2, hs3⟩ := is_step hB1 (by decide)
        have hEW2 : w3.heap[E]? = _ := (hg3.get hEl (by omega)).trans hbE
        have NX := fun W0 W W4 ry y (h1 : Gr w3 W0) h2 h3 h4 h5 cs hcat h6 => LfRel.next (W0 := W0) (W := W) (W4 := W4) (ry := ry) (y := y) (b0 := .int .i64 21) (b1 := .int .i64 0) (b2 := .int .i64 0) (b3 := .string ⟨#[]⟩) (b4 := .bool false) (b5 := .string ⟨#[]⟩) (b6 := .string ⟨#[]⟩) (b7 := .int .i64 0) (b8 := .int .i64 0) (b9 := .bool false) (b10 := .bool false) (b11 := .slice (some ⟨W.heap.size, 0, none⟩) 2 2) (by decide) hpw rfl hE hbE hb0 hx hxs hR hsn hsN hgo hf hn hg3 h1 h2 h3 h4 h5 (cs := cs) hcat h6 rfl
        have cE := Rg.blk_cells hEW2
        simp only [XR.cells] at cE
        have LA : Hid (lenAt p wr = s.size) := hid (lenAt_ps hps)
        have HQ := hid (fun W0 (h : Gr w3 W0) => hq s.step W0 (hps3.keep h) (by omega))
        have hE2l : E < w3.heap.size := Nat.lt_of_lt_of_le hEl hg3.size
        have hpE : E ≠ p := by omega
        have H0 := hid hEW2
        have HNX := hid NX
        clear NX hEW2 hps3 hps hx hxs hR hbE hb0 hgo hg3 hB1 e2 hf
        go_wp2_with fail
        refine Rg.region_chain 3 [2] [] (Late 2 w3 (fun W0 u W => Rx p W0 (q s.step) u W)) [some (.agg #[.int .i64 r.h.op, .int .i64 r.h.v.t, .int .i64 r.h.v.n, .string r.h.v.s, .bool r.h.v.b, .string r.h.tab, .string r.h.name, .int .i64 r.h.t, .int .i64 r.h.c, .bool r.h.nt, .bool r.h.st, .slice r.oa r.n r.cap]), some (.pointer (some ⟨p, 0, none⟩)), none]
          (fun v => late0 ((Gr.refl _).drew)) (by kernel_rfl) (by kernel_rfl) (by kernel_rfl) (by kernel_rfl) (fun _ _ d _ _ h => by cases d <;> exact h) ?_
        intro OPS _ v
        simp only [List.take_succ_cons, List.take_zero, Rg.wpC, Option.getD_some, Option.getD_none, Act.put, List.setIfInBounds_toArray, List.set_cons_zero, List.set_cons_succ, show List.contains [2] 0 = false from rfl, show List.contains [2] 1 = false from rfl, show List.contains [2] 2 = true from rfl, Bool.false_eq_true, if_false, if_true, Nat.reduceAdd]
        refine ⟨?_, ?_, ?_, ?_⟩
        · refine sc_still (by rfl) (by rfl) (fun s' W _ hS => ?_)
          have hg := late_any (fun _ _ _ h => Rx.go h) hS
          have cW : ∀ i, W.cell? ⟨E, i, none⟩ = (#[.int .i64 r.h.op, .int .i64 r.h.v.t, .int .i64 r.h.v.n, .string r.h.v.s, .bool r.h.v.b, .string r.h.tab, .string r.h.name, .int .i64 r.h.t, .int .i64 r.h.c, .bool r.h.nt, .bool r.h.st, .slice r.oa r.n r.cap] : Array Value)[i]? := fun i => by rw [hg.cell hE2l hpE]; exact cE i
          go_simp
        · refine sc_still (by rfl) (by rfl) (fun s' W _ hS => ?_)
          go_simp
        · refine sc_new (by rfl) (by rfl) (fun W hS => ?_)
          have hg := late_0 hS
          go_simp
          refine (HQ.out W hg).mono ?_
          rintro e w' ⟨u, rfl, hu⟩
          exact ⟨u, rfl, late1 ⟨W, hg, by rw [upd_same]; exact hu⟩⟩
        · intro W hS
          have hgW := late_any (fun _ _ _ h => Rx.go h) hS
          obtain ⟨W0, hg0, hRx⟩ := late_1 hS
          generalize v 2 = vv at *
          obtain ⟨ry, y, rfl, hy, hpy, hgy, hyg⟩ := hRx
          simp only [List.drop_succ_cons, List.drop_zero]
          have NX2 := hid (fun W4 => HNX.out W0 W W4 ry y hg0 hy hpy hgy hyg _ rfl)
          have hEW := (hgW.get hE2l hpE).trans H0.out
          have hElW : E < W.heap.size := (Array.getElem?_eq_some_iff.1 hEW).1
          clear hg0 hy hpy hgy hyg HNX HQ hgW hS
          unfold XR.val
          go_wp2_with fail
          refine (tree_any _ _ _ _ _).mono ?_
          rintro e W4 ⟨rfl, h4⟩
          obtain ⟨hnx, hlt⟩ := NX2.out W4 h4
          have HX := hid hnx
          have hE4 : W4.heap[E]? = some (.cells #[.int .i64 r.h.op, .int .i64 r.h.v.t, .int .i64 r.h.v.n, .string r.h.v.s, .bool r.h.v.b, .string r.h.tab, .string r.h.name, .int .i64 r.h.t, .int .i64 r.h.c, .bool r.h.nt, .bool r.h.st, .slice r.oa r.n r.cap] 32) := by rw [h4.block _ (by simp; omega)]; rw [((Gr.refl W).alloc _).block _ hElW]; exact hEW
          have c4 := Rg.blk_cells hE4
          have f4 := Rg.blk_free hE4
          clear hnx NX2 h4 hEW hE4 H0
          unfold XR.val
          go_wp2
          exact ⟨HX.out, by rw [LA.out]; exact hlt⟩
      | false =>
        have e2 : (s.may 4 ⟨#[47]⟩).2 = s := by simp [Ps.may, hB1]
        rw [e2] at hps3
        clear e2
        go_wp2_with fail
        refine (sign_any' p ⟨#[37]⟩ s w3 hps3).mono ?_
        rintro e w4 ⟨rfl, hps4, ht4⟩
        have hg4 := hg3.trans ht4
        clear ht4 hg3 hps3
        cases hB2 : s.is 4 ⟨#[37]⟩ with
        | true =>
          have e2 : (s.may 4 ⟨#[37]⟩).2 = s.step := by simp [Ps.may, hB2]
          rw [e2] at hps4
          have hf : (([(⟨#[42]⟩, 20), (⟨#[47]⟩, 21), (⟨#[37]⟩, 22)]) : List (ByteArray × Int)).find? (fun o => s.is 4 o.1) = some (⟨#[37]⟩, 22) := by simp [hB0, hB1, hB2]
          obtain ⟨hs1, hs2, hs3⟩ := is_step hB2 (by decide)
          have hEW2 : w4.heap[E]? = _ := (hg4.get hEl (by omega)).trans hbE
          have NX := fun W0 W W4 ry y (h1 : Gr w4 W0) h2 h3 h4 h5 cs hcat h6 => LfRel.next (W0 := W0) (W := W) (W4 := W4) (ry := ry) (y := y) (b0 := .int .i64 22) (b1 := .int .i64 0) (b2 := .int .i64 0) (b3 := .string ⟨#[]⟩) (b4 := .bool false) (b5 := .string ⟨#[]⟩) (b6 := .string ⟨#[]⟩) (b7 := .int .i64 0) (b8 := .int .i64 0) (b9 := .bool false) (b10 := .bool false) (b11 := .slice (some ⟨W.heap.size, 0, none⟩) 2 2) (by decide) hpw rfl hE hbE hb0 hx hxs hR hsn hsN hgo hf hn hg4 h1 h2 h3 h4 h5 (cs := cs) hcat h6 rfl
          have cE := Rg.blk_cells hEW2
          simp only [XR.cells] at cE
          have LA : Hid (lenAt p wr = s.size) := hid (lenAt_ps hps)
          have HQ := hid (fun W0 (h : Gr w4 W0) => hq s.step W0 (hps4.keep h) (by omega))
          have hE2l : E < w4.heap.size := Nat.lt_of_lt_of_le hEl hg4.size
          have hpE : E ≠ p := by omega
          have H0 := hid hEW2
          have HNX := hid NX
          clear NX hEW2 hps4 hps hx hxs hR hbE hb0 hgo hg4 hB2 e2 hf
          go_wp2_with fail
          refine Rg.region_chain 3 [2] [] (Late 2 w4 (fun W0 u W => Rx p W0 (q s.step) u W)) [some (.agg #[.int .i64 r.h.op, .int .i64 r.h.v.t, .int .i64 r.h.v.n, .string r.h.v.s, .bool r.h.v.b, .string r.h.tab, .string r.h.name, .int .i64 r.h.t, .int .i64 r.h.c, .bool r.h.nt, .bool r.h.st, .slice r.oa r.n r.cap]), some (.pointer (some ⟨p, 0, none⟩)), none]
            (fun v => late0 ((Gr.refl _).drew)) (by kernel_rfl) (by kernel_rfl) (by kernel_rfl) (by kernel_rfl) (fun _ _ d _ _ h => by cases d <;> exact h) ?_
          intro OPS _ v
          simp only [List.take_succ_cons, List.take_zero, Rg.wpC, Option.getD_some, Option.getD_none, Act.put, List.setIfInBounds_toArray, List.set_cons_zero, List.set_cons_succ, show List.contains [2] 0 = false from rfl, show List.contains [2] 1 = false from rfl, show List.contains [2] 2 = true from rfl, Bool.false_eq_true, if_false, if_true, Nat.reduceAdd]
          refine ⟨?_, ?_, ?_, ?_⟩
          · refine sc_still (by rfl) (by rfl) (fun s' W _ hS => ?_)
            have hg := late_any (fun _ _ _ h => Rx.go h) hS
            have cW : ∀ i, W.cell? ⟨E, i, none⟩ = (#[.int .i64 r.h.op, .int .i64 r.h.v.t, .int .i64 r.h.v.n, .string r.h.v.s, .bool r.h.v.b, .string r.h.tab, .string r.h.name, .int .i64 r.h.t, .int .i64 r.h.c, .bool r.h.nt, .bool r.h.st, .slice r.oa r.n r.cap] : Array Value)[i]? := fun i => by rw [hg.cell hE2l hpE]; exact cE i
            go_simp
          · refine sc_still (by rfl) (by rfl) (fun s' W _ hS => ?_)
            go_simp
          · refine sc_new (by rfl) (by rfl) (fun W hS => ?_)
            have hg := late_0 hS
            go_simp
            refine (HQ.out W hg).mono ?_
            rintro e w' ⟨u, rfl, hu⟩
            exact ⟨u, rfl, late1 ⟨W, hg, by rw [upd_same]; exact hu⟩⟩
          · intro W hS
            have hgW := late_any (fun _ _ _ h => Rx.go h) hS
            obtain ⟨W0, hg0, hRx⟩ := late_1 hS
            generalize v 2 = vv at *
            obtain ⟨ry, y, rfl, hy, hpy, hgy, hyg⟩ := hRx
            simp only [List.drop_succ_cons, List.drop_zero]
            have NX2 := hid (fun W4 => HNX.out W0 W W4 ry y hg0 hy hpy hgy hyg _ rfl)
            have hEW := (hgW.get hE2l hpE).trans H0.out
            have hElW : E < W.heap.size := (Array.getElem?_eq_some_iff.1 hEW).1
            clear hg0 hy hpy hgy hyg HNX HQ hgW hS
            unfold XR.val
            go_wp2_with fail
            refine (tree_any _ _ _ _ _).mono ?_
            rintro e W4 ⟨rfl, h4⟩
            obtain ⟨hnx, hlt⟩ := NX2.out W4 h4
            have HX := hid hnx
            have hE4 : W4.heap[E]? = some (.cells #[.int .i64 r.h.op, .int .i64 r.h.v.t, .int .i64 r.h.v.n, .string r.h.v.s, .bool r.h.v.b, .string r.h.tab, .string r.h.name, .int .i64 r.h.t, .int .i64 r.h.c, .bool r.h.nt, .bool r.h.st, .slice r.oa r.n r.cap] 32) := by rw [h4.block _ (by simp; omega)]; rw [((Gr.refl W).alloc _).block _ hElW]; exact hEW
            have c4 := Rg.blk_cells hE4
            have f4 := Rg.blk_free hE4
            clear hnx NX2 h4 hEW hE4 H0
            unfold XR.val
            go_wp2
            exact ⟨HX.out, by rw [LA.out]; exact hlt⟩
        | false =>
          have e2 : (s.may 4 ⟨#[37]⟩).2 = s := by simp [Ps.may, hB2]
          rw [e2] at hps4
          clear e2
          have h0W : w4.heap[w.heap.size]? = _ := (hg4.get (by omega) (by omega)).trans hb0
          have hEW2 : w4.heap[E]? = _ := (hg4.get hEl (by omega)).trans hbE
          have FI := hid (LfRel.done (E := E) hpw rfl hx hxs hR hgo (by simp [hB0, hB1, hB2]) hg4 hps4)
          have cE := Rg.blk_cells hEW2
          have c0 := Rg.blk_cells h0W
          simp only [XR.cells] at c0 cE h0W
          have f0 := Rg.blk_free h0W
          have hz2 := hg4.size
          clear hEW2 hps4 hps hgo hg4 hx hxs hR hbE hb0
          go_wp2
          (try change bodyPost _ _ _ _ _ _)
          generalize hW5 : World.setCell _ _ _ = W5
          have hT := cells12 h0W hW5
          have hF := Rx.at12 FI.out hW5
          clear hW5 h0W FI
          refine bodyPost_ret (v := XR.val r) (by simp [results, Try.results79, go_sem, XR.val, nul, hT]; try rfl) rfl ⟨_, rfl, hF⟩
set_option maxHeartbeats 4000000 in
set_option maxRecDepth 100000 in
theorem sum_any (q : Pa Ex) (p N : Nat) (hq : Rd 79 q p N) (hn : NI q) : Rd 74 (sums q) p N := by
  intro s w hS hsN
  have hpw := hS.lt
  have hS0 := fun o => hS.keep ((Gr.refl w).alloc o)
  obtain ⟨R, hR⟩ : ∃ R, sums q s = R := ⟨_, rfl⟩
  rw [hR]
  have HR := hid hR
  clear hR
  go_enter Try.func74, Try.ntmps74
  go_wp2_with fail
  refine (hq s _ (hS0 _) hsN).mono ?_
  rintro e w1 ⟨u, rfl, r, x, rfl, hx, hps, hgo, hgd⟩
  have hst := hid (LfRel.start hpw hx hps hgo hgd hn hsN HR.out)
  have hz1 := hgo.size
  simp only [World.size_alloc] at hz1
  clear hx hps hgo hgd hS0 HR
  unfold XR.val
  go_wp2_with fail
  generalize Value.agg _ = uu
  have hE : w.heap.size < w1.heap.size := by omega
  generalize w1.heap.size = E at *
  go_loopw [] (fun wr => LfRel [(⟨#[43]⟩, 18), (⟨#[45]⟩, 19), (⟨#[124, 124]⟩, 23)] 4 q p N w w.heap.size E R wr) (fun wr => lenAt p wr)
  · exact hst.out
  · clear hst
    obtain ⟨r, x, x0, s, n, hbE, hb0, hx, hxs, hR, hsn, hsN, hps, hgo⟩ := hrel
    have hEl : E < wr.heap.size := (Array.getElem?_eq_some_iff.1 hbE).1
    have hg1 := Go1.refl p wr
    have hps1 := hps
    go_wp2_with fail
    refine (sign_any' p ⟨#[43]⟩ s wr hps1).mono ?_
    rintro e w2 ⟨rfl, hps2, ht2⟩
    have hg2 := hg1.trans ht2
    clear ht2 hg1 hps1
    cases hB0 : s.is 4 ⟨#[43]⟩ with
    | true =>
      have e2 : (s.may 4 ⟨#[43]⟩).2 = s.step := by simp [Ps.may, hB0]
      rw [e2] at hps2
      have hf : (([(⟨#[43]⟩, 18), (⟨#[45]⟩, 19), (⟨#[124, 124]⟩, 23)]) : List (ByteArray × Int)).find? (fun o => s.is 4 o.1) = some (⟨#[43]⟩, 18) := by simp [hB0]
      obtain ⟨hs1, hs2, hs3⟩ := is_step hB0 (by decide)
      have hEW2 : w2.heap[E]? = _ := (hg2.get hEl (by omega)).trans hbE
      have NX := fun W0 W W4 ry y (h1 : Gr w2 W0) h2 h3 h4 h5 cs hcat h6 => LfRel.next (W0 := W0) (W := W) (W4 := W4) (ry := ry) (y := y) (b0 := .int .i64 18) (b1 := .int .i64 0) (b2 := .int .i64 0) (b3 := .string ⟨#[]⟩) (b4 := .bool false) (b5 := .string ⟨#[]⟩) (b6 := .string ⟨#[]⟩) (b7 := .int .i64 0) (b8 := .int .i64 0) (b9 := .bool false) (b10 := .bool false) (b11 := .slice (some ⟨W.heap.size, 0, none⟩) 2 2) (by decide) hpw rfl hE hbE hb0 hx hxs hR hsn hsN hgo hf hn hg2 h1 h2 h3 h4 h5 (cs := cs) hcat h6 rfl
      have cE := Rg.blk_cells hEW2
      simp only [XR.cells] at cE
      have LA : Hid (lenAt p wr = s.size) := hid (lenAt_ps hps)
      have HQ := hid (fun W0 (h : Gr w2 W0) => hq s.step W0 (hps2.keep h) (by omega))
      have hE2l : E < w2.heap.size := Nat.lt_of_lt_of_le hEl hg2.size
      have hpE : E ≠ p := by omega
      have H0 := hid hEW2
      have HNX := hid NX
      clear NX hEW2 hps2 hps hx hxs hR hbE hb0 hgo hg2 hB0 e2 hf
      go_wp2_with fail
      refine Rg.region_chain 3 [2] [] (Late 2 w2 (fun W0 u W => Rx p W0 (q s.step) u W)) [some (.agg #[.int .i64 r.h.op, .int .i64 r.h.v.t, .int .i64 r.h.v.n, .string r.h.v.s, .bool r.h.v.b, .string r.h.tab, .string r.h.name, .int .i64 r.h.t, .int .i64 r.h.c, .bool r.h.nt, .bool r.h.st, .slice r.oa r.n r.cap]), some (.pointer (some ⟨p, 0, none⟩)), none]
        (fun v => late0 ((Gr.refl _).drew)) (by kernel_rfl) (by kernel_rfl) (by kernel_rfl) (by kernel_rfl) (fun _ _ d _ _ h => by cases d <;> exact h) ?_
      intro OPS _ v
      simp only [List.take_succ_cons, List.take_zero, Rg.wpC, Option.getD_some, Option.getD_none, Act.put, List.setIfInBounds_toArray, List.set_cons_zero, List.set_cons_succ, show List.contains [2] 0 = false from rfl, show List.contains [2] 1 = false from rfl, show List.contains [2] 2 = true from rfl, Bool.false_eq_true, if_false, if_true, Nat.reduceAdd]
      refine ⟨?_, ?_, ?_, ?_⟩
      · refine sc_still (by rfl) (by rfl) (fun s' W _ hS => ?_)
        have hg := late_any (fun _ _ _ h => Rx.go h) hS
        have cW : ∀ i, W.cell? ⟨E, i, none⟩ = (#[.int .i64 r.h.op, .int .i64 r.h.v.t, .int .i64 r.h.v.n, .string r.h.v.s, .bool r.h.v.b, .string r.h.tab, .string r.h.name, .int .i64 r.h.t, .int .i64 r.h.c, .bool r.h.nt, .bool r.h.st, .slice r.oa r.n r.cap] : Array Value)[i]? := fun i => by rw [hg.cell hE2l hpE]; exact cE i
        go_simp
      · refine sc_still (by rfl) (by rfl) (fun s' W _ hS => ?_)
        go_simp
      · refine sc_new (by rfl) (by rfl) (fun W hS => ?_)
        have hg := late_0 hS
        go_simp
        refine (HQ.out W hg).mono ?_
        rintro e w' ⟨u, rfl, hu⟩
        exact ⟨u, rfl, late1 ⟨W, hg, by rw [upd_same]; exact hu⟩⟩
      · intro W hS
        have hgW := late_any (fun _ _ _ h => Rx.go h) hS
        obtain ⟨W0, hg0, hRx⟩ := late_1 hS
        generalize v 2 = vv at *
        obtain ⟨ry, y, rfl, hy, hpy, hgy, hyg⟩ := hRx
        simp only [List.drop_succ_cons, List.drop_zero]
        have NX2 := hid (fun W4 => HNX.out W0 W W4 ry y hg0 hy hpy hgy hyg _ rfl)
        have hEW := (hgW.get hE2l hpE).trans H0.out
        have hElW : E < W.heap.size := (Array.getElem?_eq_some_iff.1 hEW).1
        clear hg0 hy hpy hgy hyg HNX HQ hgW hS
        unfold XR.val
        go_wp2_with fail
        refine (tree_any _ _ _ _ _).mono ?_
        rintro e W4 ⟨rfl, h4⟩
        obtain ⟨hnx, hlt⟩ := NX2.out W4 h4
        have HX := hid hnx
        have hE4 : W4.heap[E]? = some (.cells #[.int .i64 r.h.op, .int .i64 r.h.v.t, .int .i64 r.h.v.n, .string r.h.v.s, .bool r.h.v.b, .string r.h.tab, .string r.h.name, .int .i64 r.h.t, .int .i64 r.h.c, .bool r.h.nt, .bool r.h.st, .slice r.oa r.n r.cap] 32) := by rw [h4.block _ (by simp; omega)]; rw [((Gr.refl W).alloc _).block _ hElW]; exact hEW
        have c4 := Rg.blk_cells hE4
        have f4 := Rg.blk_free hE4
        clear hnx NX2 h4 hEW hE4 H0
        unfold XR.val
        go_wp2
        exact ⟨HX.out, by rw [LA.out]; exact hlt⟩
    | false =>
      have e2 : (s.may 4 ⟨#[43]⟩).2 = s := by simp [Ps.may, hB0]
      rw [e2] at hps2
      clear e2
      go_wp2_with fail
      refine (sign_any' p ⟨#[45]⟩ s w2 hps2).mono ?_
      rintro e w3 ⟨rfl, hps3, ht3⟩
      have hg3 := hg2.trans ht3
      clear ht3 hg2 hps2
      cases hB1 : s.is 4 ⟨#[45]⟩ with
      | true =>
        have e2 : (s.may 4 ⟨#[45]⟩).2 = s.step := by simp [Ps.may, hB1]
        rw [e2] at hps3
        have hf : (([(⟨#[43]⟩, 18), (⟨#[45]⟩, 19), (⟨#[124, 124]⟩, 23)]) : List (ByteArray × Int)).find? (fun o => s.is 4 o.1) = some (⟨#[45]⟩, 19) := by simp [hB0, hB1]
        obtain ⟨hs1, hs2, hs3⟩ := is_step hB1 (by decide)
        have hEW2 : w3.heap[E]? = _ := (hg3.get hEl (by omega)).trans hbE
        have NX := fun W0 W W4 ry y (h1 : Gr w3 W0) h2 h3 h4 h5 cs hcat h6 => LfRel.next (W0 := W0) (W := W) (W4 := W4) (ry := ry) (y := y) (b0 := .int .i64 19) (b1 := .int .i64 0) (b2 := .int .i64 0) (b3 := .string ⟨#[]⟩) (b4 := .bool false) (b5 := .string ⟨#[]⟩) (b6 := .string ⟨#[]⟩) (b7 := .int .i64 0) (b8 := .int .i64 0) (b9 := .bool false) (b10 := .bool false) (b11 := .slice (some ⟨W.heap.size, 0, none⟩) 2 2) (by decide) hpw rfl hE hbE hb0 hx hxs hR hsn hsN hgo hf hn hg3 h1 h2 h3 h4 h5 (cs := cs) hcat h6 rfl
        have cE := Rg.blk_cells hEW2
        simp only [XR.cells] at cE
        have LA : Hid (lenAt p wr = s.size) := hid (lenAt_ps hps)
        have HQ := hid (fun W0 (h : Gr w3 W0) => hq s.step W0 (hps3.keep h) (by omega))
        have hE2l : E < w3.heap.size := Nat.lt_of_lt_of_le hEl hg3.size
        have hpE : E ≠ p := by omega
        have H0 := hid hEW2
        have HNX := hid NX
        clear NX hEW2 hps3 hps hx hxs hR hbE hb0 hgo hg3 hB1 e2 hf
        go_wp2_with fail
        refine Rg.region_chain 3 [2] [] (Late 2 w3 (fun W0 u W => Rx p W0 (q s.step) u W)) [some (.agg #[.int .i64 r.h.op, .int .i64 r.h.v.t, .int .i64 r.h.v.n, .string r.h.v.s, .bool r.h.v.b, .string r.h.tab, .string r.h.name, .int .i64 r.h.t, .int .i64 r.h.c, .bool r.h.nt, .bool r.h.st, .slice r.oa r.n r.cap]), some (.pointer (some ⟨p, 0, none⟩)), none]
          (fun v => late0 ((Gr.refl _).drew)) (by kernel_rfl) (by kernel_rfl) (by kernel_rfl) (by kernel_rfl) (fun _ _ d _ _ h => by cases d <;> exact h) ?_
        intro OPS _ v
        simp only [List.take_succ_cons, List.take_zero, Rg.wpC, Option.getD_some, Option.getD_none, Act.put, List.setIfInBounds_toArray, List.set_cons_zero, List.set_cons_succ, show List.contains [2] 0 = false from rfl, show List.contains [2] 1 = false from rfl, show List.contains [2] 2 = true from rfl, Bool.false_eq_true, if_false, if_true, Nat.reduceAdd]
        refine ⟨?_, ?_, ?_, ?_⟩
        · refine sc_still (by rfl) (by rfl) (fun s' W _ hS => ?_)
          have hg := late_any (fun _ _ _ h => Rx.go h) hS
          have cW : ∀ i, W.cell? ⟨E, i, none⟩ = (#[.int .i64 r.h.op, .int .i64 r.h.v.t, .int .i64 r.h.v.n, .string r.h.v.s, .bool r.h.v.b, .string r.h.tab, .string r.h.name, .int .i64 r.h.t, .int .i64 r.h.c, .bool r.h.nt, .bool r.h.st, .slice r.oa r.n r.cap] : Array Value)[i]? := fun i => by rw [hg.cell hE2l hpE]; exact cE i
          go_simp
        · refine sc_still (by rfl) (by rfl) (fun s' W _ hS => ?_)
          go_simp
        · refine sc_new (by rfl) (by rfl) (fun W hS => ?_)
          have hg := late_0 hS
          go_simp
          refine (HQ.out W hg).mono ?_
          rintro e w' ⟨u, rfl, hu⟩
          exact ⟨u, rfl, late1 ⟨W, hg, by rw [upd_same]; exact hu⟩⟩
        · intro W hS
          have hgW := late_any (fun _ _ _ h => Rx.go h) hS
          obtain ⟨W0, hg0, hRx⟩ := late_1 hS
          generalize v 2 = vv at *
          obtain ⟨ry, y, rfl, hy, hpy, hgy, hyg⟩ := hRx
          simp only [List.drop_succ_cons, List.drop_zero]
          have NX2 := hid (fun W4 => HNX.out W0 W W4 ry y hg0 hy hpy hgy hyg _ rfl)
          have hEW := (hgW.get hE2l hpE).trans H0.out
          have hElW : E < W.heap.size := (Array.getElem?_eq_some_iff.1 hEW).1
          clear hg0 hy hpy hgy hyg HNX HQ hgW hS
          unfold XR.val
          go_wp2_with fail
          refine (tree_any _ _ _ _ _).mono ?_
          rintro e W4 ⟨rfl, h4⟩
          obtain ⟨hnx, hlt⟩ := NX2.out W4 h4
          have HX := hid hnx
          have hE4 : W4.heap[E]? = some (.cells #[.int .i64 r.h.op, .int .i64 r.h.v.t, .int .i64 r.h.v.n, .string r.h.v.s, .bool r.h.v.b, .string r.h.tab, .string r.h.name, .int .i64 r.h.t, .int .i64 r.h.c, .bool r.h.nt, .bool r.h.st, .slice r.oa r.n r.cap] 32) := by rw [h4.block _ (by simp; omega)]; rw [((Gr.refl W).alloc _).block _ hElW]; exact hEW
          have c4 := Rg.blk_cells hE4
          have f4 := Rg.blk_free hE4
          clear hnx NX2 h4 hEW hE4 H0
          unfold XR.val
          go_wp2
          exact ⟨HX.out, by rw [LA.out]; exact hlt⟩
      | false =>
        have e2 : (s.may 4 ⟨#[45]⟩).2 = s := by simp [Ps.may, hB1]
        rw [e2] at hps3
        clear e2
        go_wp2_with fail
        refine (sign_any' p ⟨#[124, 124]⟩ s w3 hps3).mono ?_
        rintro e w4 ⟨rfl, hps4, ht4⟩
        have hg4 := hg3.trans ht4
        clear ht4 hg3 hps3
        cases hB2 : s.is 4 ⟨#[124, 124]⟩ with
        | true =>
          have e2 : (s.may 4 ⟨#[124, 124]⟩).2 = s.step := by simp [Ps.may, hB2]
          rw [e2] at hps4
          have hf : (([(⟨#[43]⟩, 18), (⟨#[45]⟩, 19), (⟨#[124, 124]⟩, 23)]) : List (ByteArray × Int)).find? (fun o => s.is 4 o.1) = some (⟨#[124, 124]⟩, 23) := by simp [hB0, hB1, hB2]
          obtain ⟨hs1, hs2, hs3⟩ := is_step hB2 (by decide)
          have hEW2 : w4.heap[E]? = _ := (hg4.get hEl (by omega)).trans hbE
          have NX := fun W0 W W4 ry y (h1 : Gr w4 W0) h2 h3 h4 h5 cs hcat h6 => LfRel.next (W0 := W0) (W := W) (W4 := W4) (ry := ry) (y := y) (b0 := .int .i64 23) (b1 := .int .i64 0) (b2 := .int .i64 0) (b3 := .string ⟨#[]⟩) (b4 := .bool false) (b5 := .string ⟨#[]⟩) (b6 := .string ⟨#[]⟩) (b7 := .int .i64 0) (b8 := .int .i64 0) (b9 := .bool false) (b10 := .bool false) (b11 := .slice (some ⟨W.heap.size, 0, none⟩) 2 2) (by decide) hpw rfl hE hbE hb0 hx hxs hR hsn hsN hgo hf hn hg4 h1 h2 h3 h4 h5 (cs := cs) hcat h6 rfl
          have cE := Rg.blk_cells hEW2
          simp only [XR.cells] at cE
          have LA : Hid (lenAt p wr = s.size) := hid (lenAt_ps hps)
          have HQ := hid (fun W0 (h : Gr w4 W0) => hq s.step W0 (hps4.keep h) (by omega))
          have hE2l : E < w4.heap.size := Nat.lt_of_lt_of_le hEl hg4.size
          have hpE : E ≠ p := by omega
          have H0 := hid hEW2
          have HNX := hid NX
          clear NX hEW2 hps4 hps hx hxs hR hbE hb0 hgo hg4 hB2 e2 hf
          go_wp2_with fail
          refine Rg.region_chain 3 [2] [] (Late 2 w4 (fun W0 u W => Rx p W0 (q s.step) u W)) [some (.agg #[.int .i64 r.h.op, .int .i64 r.h.v.t, .int .i64 r.h.v.n, .string r.h.v.s, .bool r.h.v.b, .string r.h.tab, .string r.h.name, .int .i64 r.h.t, .int .i64 r.h.c, .bool r.h.nt, .bool r.h.st, .slice r.oa r.n r.cap]), some (.pointer (some ⟨p, 0, none⟩)), none]
            (fun v => late0 ((Gr.refl _).drew)) (by kernel_rfl) (by kernel_rfl) (by kernel_rfl) (by kernel_rfl) (fun _ _ d _ _ h => by cases d <;> exact h) ?_
          intro OPS _ v
          simp only [List.take_succ_cons, List.take_zero, Rg.wpC, Option.getD_some, Option.getD_none, Act.put, List.setIfInBounds_toArray, List.set_cons_zero, List.set_cons_succ, show List.contains [2] 0 = false from rfl, show List.contains [2] 1 = false from rfl, show List.contains [2] 2 = true from rfl, Bool.false_eq_true, if_false, if_true, Nat.reduceAdd]
          refine ⟨?_, ?_, ?_, ?_⟩
          · refine sc_still (by rfl) (by rfl) (fun s' W _ hS => ?_)
            have hg := late_any (fun _ _ _ h => Rx.go h) hS
            have cW : ∀ i, W.cell? ⟨E, i, none⟩ = (#[.int .i64 r.h.op, .int .i64 r.h.v.t, .int .i64 r.h.v.n, .string r.h.v.s, .bool r.h.v.b, .string r.h.tab, .string r.h.name, .int .i64 r.h.t, .int .i64 r.h.c, .bool r.h.nt, .bool r.h.st, .slice r.oa r.n r.cap] : Array Value)[i]? := fun i => by rw [hg.cell hE2l hpE]; exact cE i
            go_simp
          · refine sc_still (by rfl) (by rfl) (fun s' W _ hS => ?_)
            go_simp
          · refine sc_new (by rfl) (by rfl) (fun W hS => ?_)
            have hg := late_0 hS
            go_simp
            refine (HQ.out W hg).mono ?_
            rintro e w' ⟨u, rfl, hu⟩
            exact ⟨u, rfl, late1 ⟨W, hg, by rw [upd_same]; exact hu⟩⟩
          · intro W hS
            have hgW := late_any (fun _ _ _ h => Rx.go h) hS
            obtain ⟨W0, hg0, hRx⟩ := late_1 hS
            generalize v 2 = vv at *
            obtain ⟨ry, y, rfl, hy, hpy, hgy, hyg⟩ := hRx
            simp only [List.drop_succ_cons, List.drop_zero]
            have NX2 := hid (fun W4 => HNX.out W0 W W4 ry y hg0 hy hpy hgy hyg _ rfl)
            have hEW := (hgW.get hE2l hpE).trans H0.out
            have hElW : E < W.heap.size := (Array.getElem?_eq_some_iff.1 hEW).1
            clear hg0 hy hpy hgy hyg HNX HQ hgW hS
            unfold XR.val
            go_wp2_with fail
            refine (tree_any _ _ _ _ _).mono ?_
            rintro e W4 ⟨rfl, h4⟩
            obtain ⟨hnx, hlt⟩ := NX2.out W4 h4
            have HX := hid hnx
            have hE4 : W4.heap[E]? = some (.cells #[.int .i64 r.h.op, .int .i64 r.h.v.t, .int .i64 r.h.v.n, .string r.h.v.s, .bool r.h.v.b, .string r.h.tab, .string r.h.name, .int .i64 r.h.t, .int .i64 r.h.c, .bool r.h.nt, .bool r.h.st, .slice r.oa r.n r.cap] 32) := by rw [h4.block _ (by simp; omega)]; rw [((Gr.refl W).alloc _).block _ hElW]; exact hEW
            have c4 := Rg.blk_cells hE4
            have f4 := Rg.blk_free hE4
            clear hnx NX2 h4 hEW hE4 H0
            unfold XR.val
            go_wp2
            exact ⟨HX.out, by rw [LA.out]; exact hlt⟩
        | false =>
          have e2 : (s.may 4 ⟨#[124, 124]⟩).2 = s := by simp [Ps.may, hB2]
          rw [e2] at hps4
          clear e2
          have h0W : w4.heap[w.heap.size]? = _ := (hg4.get (by omega) (by omega)).trans hb0
          have hEW2 : w4.heap[E]? = _ := (hg4.get hEl (by omega)).trans hbE
          have FI := hid (LfRel.done (E := E) hpw rfl hx hxs hR hgo (by simp [hB0, hB1, hB2]) hg4 hps4)
          have cE := Rg.blk_cells hEW2
          have c0 := Rg.blk_cells h0W
          simp only [XR.cells] at c0 cE h0W
          have f0 := Rg.blk_free h0W
          have hz2 := hg4.size
          clear hEW2 hps4 hps hgo hg4 hx hxs hR hbE hb0
          go_wp2
          (try change bodyPost _ _ _ _ _ _)
          generalize hW5 : World.setCell _ _ _ = W5
          have hT := cells12 h0W hW5
          have hF := Rx.at12 FI.out hW5
          clear hW5 h0W FI
          refine bodyPost_ret (v := XR.val r) (by simp [results, Try.results74, go_sem, XR.val, nul, hT]; try rfl) rfl ⟨_, rfl, hF⟩
end Go.Proofs.Ytaogpifcfmjcbaa
end
section
namespace Go.Proofs.Ytaogpifcfmjcbaa
open Go.RowKit
set_option linter.unusedVariables false
theorem lvl_any (E : Pa Ex) (hdp : DP E) (hni : NI E) (p N : Nat) (hN : N ≤ 1000000) (hor : RdL 18 E p N) : Rd 18 (lvl E) p N := by
  have hex := exprs_less E p N hN hor hni
  have hs := single_any E hdp p N hor hex
  have ns := ni_single hni
  have ds := dp_single hdp
  have hm := minus_any (single E) p N hs ds N (Nat.le_refl _)
  have nm : NI (minuses (single E)) := fun s => ni_ahead ns _ s
  have dm : DP (minuses (single E)) := fun s => dp_ahead ds _ s
  have hp := product_any _ p N hm nm
  have np : NI (prods (minuses (single E))) := ni_left nm
  have dpp : DP (prods (minuses (single E))) := dp_left dm
  have hsu := sum_any _ p N hp np
  have nsu : NI (sums (prods (minuses (single E)))) := ni_left np
  have dsu : DP (sums (prods (minuses (single E)))) := dp_left dpp
  have hl := list_any E hdp p N hex
  have hc := compare_any _ E p N hN hsu nsu hni hl dsu
  have nc := ni_compares nsu hni
  have dc := dp_compares dsu hdp
  have hn := not_any _ p N hc dc N (Nat.le_refl _)
  have nn : NI (nots (compares (sums (prods (minuses (single E)))) E)) := fun s => ni_ahead nc _ s
  have ha := and_any _ p N hn nn
  have na : NI (ands (nots (compares (sums (prods (minuses (single E)))) E))) := ni_left nn
  exact or_any _ p N ha na
theorem or_rec (p : Nat) : ∀ N, N ≤ 1000000 → Rd 18 (expr N) p N
  | 0, h => lvl_any _ (fun s => .refl _) (fun s => Nat.le_refl _) p 0 h (fun s w hS hs => absurd hs (Nat.not_lt_zero _))
  | N + 1, h => lvl_any _ (dp_expr N) (ni_expr N) p (N + 1) h (fun s w hS hs => or_rec p N (by omega) s w hS (by omega))
theorem expr_any (p N : Nat) (hN : N ≤ 1000000) : Rd 18 exprS p N := fun s w hS hs => or_rec p s.size (by omega) s w hS (Nat.le_refl _)
theorem exprs_whole (p N : Nat) (hN : N ≤ 1000000) : Rds 56 (sep exprS) p N := exprs_any exprS p N hN (expr_any p N hN) ni_exprS
end Go.Proofs.Ytaogpifcfmjcbaa
end
section
namespace Go.Proofs.Ytaogpifcfmjcbaa
open Go.RowKit
set_option linter.unusedSimpArgs false
set_option linter.unusedVariables false
attribute [local go_sem] Rg.leads_value Rg.leads_skip Rg.leads_enter Rg.brings_value Rg.brings_skip Rg.brings_enter Rg.bringsG_value Rg.bringsG_enter Rg.once_normal Rg.once_exit Rg.once_ret Rg.once_panic Rg.once_goto Rg.bringsS_value Rg.bringsS_skip Rg.bringsS_enter Rg.still_value Rg.still_skip Rg.still_enter
theorem may_y {s : Ps} {k : Nat} {c : ByteArray} (h : s.is k c = true) : (s.may k c).2 = s.step := by simp [Ps.may, h]
theorem may_n {s : Ps} {k : Nat} {c : ByteArray} (h : s.is k c = false) : (s.may k c).2 = s := by simp [Ps.may, h]
set_option maxHeartbeats 4000000 in
set_option maxRecDepth 100000 in
theorem clause_any (p : Nat) (c : ByteArray) (s : Ps) (w : World) (hS : PS p w s) (hs : s.size ≤ 1000000) : Calls Try.prog 30 #[.pointer (some ⟨p, 0, none⟩), .string c] w (Px p w (clauseS c s)) := by
  have hpw := hS.lt
  have hG := fun o => (Gr.refl w).alloc o
  have hS0 := fun o => hS.keep (hG o)
  cases hB : s.is 1 c with
  | true =>
    have e1 : clauseS c s = exprS s.step := by unfold clauseS; rw [hB]; rfl
    rw [e1]
    have hsz := (is_step hB (by decide)).1
    go_enter Try.func30, Try.ntmps30
    go_wp2_with fail
    refine (word_any p c s _ (hS0 _)).mono ?_
    rintro e w1 ⟨rfl, hps1, hg1⟩
    rw [hB]
    rw [may_y hB] at hps1
    have z1 := hg1.size
    simp only [World.size_alloc] at z1
    go_wp2_with fail
    refine (expr_any p 1000000 (Nat.le_refl _) s.step _ hps1 (by omega)).mono ?_
    rintro e w2 ⟨u, rfl, r, x, rfl, hx, hps2, hg2, hgd⟩
    have z2 := hg2.size
    have h02 : w2.heap[w.heap.size]? = some (.cells zeroX 32 (0, 0)) := by
      rw [hg2.get (by omega) (by omega), hg1.get (by simp) (by omega)]; exact alloc_at _ _
    have H02 := hid h02
    have FI : Hid (∀ W5, Go1 w.heap.size w2 W5 → Rx p w (exprS s.step) r.val W5) := hid (fun W5 h5 => giveG hpw rfl (hx.mono (fun b _ hb => by have : w1.heap.size ≤ b := hb; exact ⟨by omega, by omega⟩)) hps2 (((Go1.of (hG _)).trans hg1).trans hg2) hgd h5)
    clear hx hps1 hps2 hg1 hg2 hgd hS0 hG hS h02 e1
    unfold XR.val
    go_wp2_with (guard_target =~ wpList _ _ _ (Oper.mk _ (Op.store 32 _ _) _ _ _ _ :: _) _ _; refine st_row (ty := 32) rfl rfl w.heap.size _ rfl rfl 32 _ (H02.out) (by kernel_rfl) rfl (by kernel_rfl) ?_; intro W5 hW5 gW5 zW5)
    (try change bodyPost _ _ _ _ _ _)
    have hT := Rg.blk_cells hW5
    refine bodyPost_ret (v := XR.val r) (by simp [results, Try.results30, go_sem, XR.val, nul, hT]; try rfl) rfl ⟨_, rfl, FI.out W5 gW5⟩
  | false =>
    have e1 : clauseS c s = (noEx, s) := by unfold clauseS; rw [hB]; rfl
    rw [e1]
    go_enter Try.func30, Try.ntmps30
    go_wp2_with fail
    refine (word_any p c s _ (hS0 _)).mono ?_
    rintro e w2 ⟨rfl, hps2, hg2⟩
    rw [hB]
    rw [may_n hB] at hps2
    have h02 : w2.heap[w.heap.size]? = some (.cells zeroX 32 (0, 0)) := by
      rw [hg2.get (by simp) (by omega)]; exact alloc_at _ _
    have H02 := hid h02
    have FI : Hid (∀ W5, Go1 w.heap.size w2 W5 → Rx p w (noEx, s) (XR.val ⟨{ op := 0 }, none, 0, 0⟩) W5) := hid (fun W5 h5 => giveG hpw rfl (formZ (S := fun b => w.heap.size ≤ b ∧ b ≠ w.heap.size)) hps2 ((Go1.of (hG _)).trans hg2) (fun _ => rfl) h5)
    clear hps2 hg2 hS0 hG hS h02 e1
    go_wp2_with (guard_target =~ wpList _ _ _ (Oper.mk _ (Op.store 32 _ _) _ _ _ _ :: _) _ _; refine st_row (ty := 32) rfl rfl w.heap.size _ rfl rfl 32 _ (H02.out) (by kernel_rfl) rfl (by kernel_rfl) ?_; intro W5 hW5 gW5 zW5)
    (try change bodyPost _ _ _ _ _ _)
    have hT := Rg.blk_cells hW5
    refine bodyPost_ret (v := XR.val ⟨{ op := 0 }, none, 0, 0⟩) (by simp [results, Try.results30, go_sem, XR.val, nul, hT]; try rfl) rfl ⟨_, rfl, FI.out W5 gW5⟩
end Go.Proofs.Ytaogpifcfmjcbaa
end
