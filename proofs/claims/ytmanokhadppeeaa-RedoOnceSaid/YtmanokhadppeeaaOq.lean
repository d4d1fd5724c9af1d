/- redo: lists that came in. -/
import Derived.Test.YtmanokhadppeeaaPost
import Derived.Test.YtmanokhadppeeaaR1
import Derived.Test.YtmanokhadppeeaaH1
import Derived.Carry
import Derived.Deep.Slices
import Derived.Deep.Fields
import Derived.Deep.Strs
import Derived.ChangeSame
import Derived.Lib.SmallJoins
namespace Go.Proofs.Ytmanokhadppeeaa
open Go.ChangeShapes Go.WideShapes Go.RowKit Go.Deep Go.Joins
set_option linter.unusedVariables false
theorem laidOut : laidOutB Try.prog = true := by kernel_rfl
theorem list_of {α : Type} (n : Nat) (Q : Nat → α → Prop) (h : ∀ i, i < n → ∃ x, Q i x) : ∃ l : List α, l.length = n ∧ ∀ k (hk : k < l.length), Q k l[k] := by
  induction n with
  | zero => exact ⟨[], rfl, fun k hk => by simp at hk⟩
  | succ n ih =>
    obtain ⟨l, hl, hq⟩ := ih fun i hi => h i (by omega)
    obtain ⟨x, hx⟩ := h n (by omega)
    refine ⟨l ++ [x], by simp [hl], fun k hk => ?_⟩
    by_cases hlt : k < l.length
    · rw [List.getElem_append_left hlt]; exact hq k hlt
    · have : k = n := by simp at hk; omega
      subst this
      rw [List.getElem_append_right (by omega)]
      simpa [hl] using hx
section
variable {H : Type} {enc : TypeId × Value → H} {W W' : World}
set_option maxRecDepth 100000 in
theorem keep_arg {t : TypeId} (hr : Try.prog.readableRec t = true) (hrow : t < Try.prog.types.size) {v : Value} {d : DataW H} {ps : List MemPlace} (h : DataW.Trod enc Try.prog W 0 (fun _ => true) true t v d ps) (hb : Below W.heap.size W W') (hlt : ∀ x ∈ ps, x.block < W.heap.size) {sp : Nat → Bool} (hs : ∀ p ∈ ps, sp p.block = true) :
    DataW.Trod enc Try.prog W' 0 sp true t v d ps :=
  WideElems.Trod_stays laidOut hr hrow h (fun x hx => hb.same (hlt x hx)) hs
/-- a slice that came in: nil, or a place with its rows -/
theorem open_rows {t e : TypeId} {n : Nat} (hn : 0 < n) (hu : Try.prog.underlying t = some (.slice e)) (hC : Try.prog.cellsOf e = n) {fuel : Nat} {v : Value} {x : DataW H × List MemPlace} {cs0 : List Value} (hv : cs0 = [v]) (h : DataW.trod enc Try.prog W 0 (fun _ => true) true fuel t cs0 = some x) :
    ∃ (oa : Option Addr) (len c : Nat), v = .slice oa len c ∧ (oa = none → c = 0) ∧ len ≤ 9223372036854775807 ∧ (len = 0 ∨ ∃ b off, oa = some ⟨b, off, none⟩ ∧ b < W.heap.size ∧
      ∀ i, i < len → ∃ cs m y, cs.length = n ∧ (∀ j, j < n → W.cell? ⟨b, off + i * n + j, none⟩ = cs[j]?) ∧ DataW.trod enc Try.prog W 0 (fun _ => true) true m e cs = some y) := by
  subst hv
  rcases DataW.trod_slice hu h with ⟨e2, _⟩ | ⟨a, len, cap, elems, rest, m, _, e2, _, _, hl, hm, hel, hi, _⟩
  · simp only [List.cons.injEq, and_true] at e2
    subst e2
    exact ⟨none, 0, 0, rfl, fun _ => rfl, by omega, .inl rfl⟩
  · simp only [List.cons.injEq, and_true] at e2
    subst e2
    rw [hC] at hi
    have hm' : len ≤ 9223372036854775807 := by unfold maxLen at hm; omega
    by_cases hz : len = 0
    · exact ⟨some a, len, cap, rfl, fun h => (by cases h), hm', .inl hz⟩
    · have hall : ∀ i, i < len → ∃ cs m y, cs.length = n ∧ (∀ j, j < n → W.cell? ((a.add (i * n)).add j) = cs[j]?) ∧ DataW.trod enc Try.prog W 0 (fun _ => true) true m e cs = some y := fun i hlt => by
        have h3 := hi i hlt
        rw [List.getElem?_eq_getElem (by omega)] at h3
        obtain ⟨cs, hc, ht⟩ := Option.bind_eq_some_iff.1 h3
        obtain ⟨_, hlen, hcell⟩ := World.cells?_some hc
        exact ⟨cs, m, _, hlen, hcell, ht⟩
      obtain ⟨b, off, spot⟩ := a
      obtain ⟨cs, m1, y, hcl, hcc, _⟩ := hall 0 (by omega)
      have h0 := hcc 0 hn
      rw [List.getElem?_eq_getElem (by omega)] at h0
      have hspot : spot = none := by simpa [Addr.add] using World.cell?_spot h0
      subst hspot
      have hbl : b < W.heap.size := by
        have := World.block_lt_of_cell? _ _ h0
        rwa [addN, addN] at this
      refine ⟨_, len, cap, rfl, fun h => (by cases h), hm', .inr ⟨b, off, rfl, hbl, fun i hlt => ?_⟩⟩
      obtain ⟨cs, m2, y, h1, h2, h3⟩ := hall i hlt
      exact ⟨cs, m2, y, h1, fun j hj => by have := h2 j hj; rwa [addN, addN] at this, h3⟩
/-- a slice of structs that are read cell by cell -/
theorem open_enc {α : Type} {f : α → List Value} {n : Nat} (he : Enc f n) (good : α → Prop) {t e : TypeId} (hu : Try.prog.underlying t = some (.slice e)) (hC : Try.prog.cellsOf e = n)
    (hr : ∀ cs m y, cs.length = n → DataW.trod enc Try.prog W 0 (fun _ => true) true m e cs = some y → ∃ x, f x = cs ∧ good x) {fuel : Nat} {v : Value} {x : DataW H × List MemPlace} {cs0 : List Value} (hv : cs0 = [v]) (h : DataW.trod enc Try.prog W 0 (fun _ => true) true fuel t cs0 = some x) :
    ∃ oa c l, v = .slice oa l.length c ∧ AtF f n W oa l ∧ l.length ≤ 9223372036854775807 ∧ (oa = none → c = 0) ∧ ∀ x ∈ l, good x := by
  obtain ⟨oa, len, c, rfl, hn, hm, hrr⟩ := open_rows he.pos hu hC hv h
  rcases hrr with rfl | ⟨b, off, rfl, hb, hi⟩
  · exact ⟨oa, c, [], rfl, .inl rfl, by simp, hn, by simp⟩
  · have hall : ∀ i, i < len → ∃ x : α, (∀ j u, (f x)[j]? = some u → W.cell? ⟨b, off + i * n + j, none⟩ = some u) ∧ good x := fun i hlt => by
      obtain ⟨cs, m, y, hlen, hcell, ht⟩ := hi i hlt
      obtain ⟨x, hx, hg⟩ := hr cs m y hlen ht
      refine ⟨x, fun j u hu => ?_, hg⟩
      have hj : j < n := by rw [← he.len x]; exact (List.getElem?_eq_some_iff.1 hu).1
      rw [hcell j hj, ← hx, hu]
    obtain ⟨l, hll, hq⟩ := list_of len _ hall
    refine ⟨_, c, l, by rw [hll], .inr ⟨b, off, rfl, hb, fun k hk j u hu => (hq k hk).1 j u hu⟩, by omega, hn, fun x hx => ?_⟩
    obtain ⟨k, hk, rfl⟩ := List.getElem_of_mem hx
    exact (hq k hk).2
theorem read_int {m : Nat} {u : Value} {y : DataW H × List MemPlace} (h : DataW.trod enc Try.prog W 0 (fun _ => true) true m 3 [u] = some y) : ∃ p, u = .int .i64 p ∧ okI p := by
  obtain ⟨p, e, _, hw⟩ := DataW.trod_int Try.underlying3 h
  simp at e
  exact ⟨p, e, hw⟩
theorem read_dy : ∀ cs m y, cs.length = 2 → DataW.trod enc Try.prog W 0 (fun _ => true) true m 36 cs = some y → ∃ x : Dy, dF x = cs ∧ (okI x.page ∧ okI x.lsn) := by
  intro cs m y hlen ht
  have hk3 : Try.prog.cellsOf 3 = 1 := by kernel_rfl
  obtain ⟨z0, z1, q, _, _, h0, h1⟩ := trod_struct2 Try.underlying36 ht
  match cs, hlen, h0, h1 with
  | [u0, u1], _, h0, h1 =>
    simp [hk3] at h0 h1
    obtain ⟨p0, rfl, g0⟩ := read_int h0
    obtain ⟨p1, rfl, g1⟩ := read_int h1
    exact ⟨⟨p0, p1⟩, rfl, g0, g1⟩
theorem read_tx : ∀ cs m y, cs.length = 3 → DataW.trod enc Try.prog W 0 (fun _ => true) true m 53 cs = some y → ∃ x : Tx, tF x = cs ∧ (okI x.id ∧ okI x.last ∧ okI x.st) := by
  intro cs m y hlen ht
  have hk3 : Try.prog.cellsOf 3 = 1 := by kernel_rfl
  obtain ⟨z0, z1, z2, q, _, _, h0, h1, h2⟩ := trod_struct3 Try.underlying53 ht
  match cs, hlen, h0, h1, h2 with
  | [u0, u1, u2], _, h0, h1, h2 =>
    simp [hk3] at h0 h1 h2
    obtain ⟨p0, rfl, g0⟩ := read_int h0
    obtain ⟨p1, rfl, g1⟩ := read_int h1
    obtain ⟨p2, rfl, g2⟩ := read_int h2
    exact ⟨⟨p0, p1, p2⟩, rfl, g0, g1, g2⟩
theorem read_i : ∀ cs m y, cs.length = 1 → DataW.trod enc Try.prog W 0 (fun _ => true) true m 3 cs = some y → ∃ x : Int, iF x = cs ∧ okI x := by
  intro cs m y hlen ht
  match cs, hlen with
  | [u0], _ =>
    obtain ⟨p0, rfl, g0⟩ := read_int ht
    exact ⟨p0, rfl, g0⟩
theorem read_b : ∀ cs m y, cs.length = 1 → DataW.trod enc Try.prog W 0 (fun _ => true) true m 5 cs = some y → ∃ x : Int, bF x = cs ∧ True := by
  intro cs m y hlen ht
  match cs, hlen with
  | [u0], _ =>
    obtain ⟨p, e, _, hw⟩ := DataW.trod_int Try.underlying5 ht
    simp at e
    subst e
    exact ⟨p, rfl, trivial⟩
/-- a line that came in -/
structure LnIn (W : World) (x : Ln) : Prop where
  ok : LnOk W x
  page : okI x.page
  lsn : okI x.lsn
  lens : x.bs.length ≤ 9223372036854775807 ∧ x.es.length ≤ 9223372036854775807 ∧ x.ts.length ≤ 9223372036854775807 ∧ x.ds.length ≤ 9223372036854775807
set_option maxRecDepth 100000 in
theorem read_ln : ∀ cs m y, cs.length = 12 → DataW.trod enc Try.prog W 0 (fun _ => true) true m 34 cs = some y → ∃ x : Ln, nF x = cs ∧ LnIn W x := by
  intro cs m y hlen ht
  have hk3 : Try.prog.cellsOf 3 = 1 := by kernel_rfl
  have hk32 : Try.prog.cellsOf 32 = 11 := by kernel_rfl
  have hk30 : Try.prog.cellsOf 30 = 1 := by kernel_rfl
  have hk25 : Try.prog.cellsOf 25 = 1 := by kernel_rfl
  have hk26 : Try.prog.cellsOf 26 = 1 := by kernel_rfl
  obtain ⟨z0, z1, q, _, _, h0, h1⟩ := trod_struct2 Try.underlying34 ht
  match cs, hlen, h0, h1 with
  | [a, b0, b1, b2, b3, b4, b5, b6, b7, b8, b9, b10], _, h0, h1 =>
    simp [hk3, hk32] at h0 h1
    obtain ⟨xs, n, _, rfl, _, hxl, hf⟩ := DataW.trod_struct Try.underlying32 h1
    have hx11 : xs.length = 11 := hxl
    have f0 : DataW.trod enc Try.prog W 0 (fun _ => true) true n 3 [b0] = some (xs[0]'(by omega)) := by rw [← List.getElem?_eq_getElem]; simpa [hk3] using hf 0 _ rfl
    have f1 : DataW.trod enc Try.prog W 0 (fun _ => true) true n 3 [b1] = some (xs[1]'(by omega)) := by rw [← List.getElem?_eq_getElem]; simpa [hk3] using hf 1 _ rfl
    have f2 : DataW.trod enc Try.prog W 0 (fun _ => true) true n 3 [b2] = some (xs[2]'(by omega)) := by rw [← List.getElem?_eq_getElem]; simpa [hk3] using hf 2 _ rfl
    have f3 : DataW.trod enc Try.prog W 0 (fun _ => true) true n 3 [b3] = some (xs[3]'(by omega)) := by rw [← List.getElem?_eq_getElem]; simpa [hk3] using hf 3 _ rfl
    have f4 : DataW.trod enc Try.prog W 0 (fun _ => true) true n 3 [b4] = some (xs[4]'(by omega)) := by rw [← List.getElem?_eq_getElem]; simpa [hk3] using hf 4 _ rfl
    have f5 : DataW.trod enc Try.prog W 0 (fun _ => true) true n 3 [b5] = some (xs[5]'(by omega)) := by rw [← List.getElem?_eq_getElem]; simpa [hk3] using hf 5 _ rfl
    have f6 : DataW.trod enc Try.prog W 0 (fun _ => true) true n 30 [b6] = some (xs[6]'(by omega)) := by rw [← List.getElem?_eq_getElem]; simpa [hk30] using hf 6 _ rfl
    have f7 : DataW.trod enc Try.prog W 0 (fun _ => true) true n 30 [b7] = some (xs[7]'(by omega)) := by rw [← List.getElem?_eq_getElem]; simpa [hk30] using hf 7 _ rfl
    have f8 : DataW.trod enc Try.prog W 0 (fun _ => true) true n 25 [b8] = some (xs[8]'(by omega)) := by rw [← List.getElem?_eq_getElem]; simpa [hk25] using hf 8 _ rfl
    have f9 : DataW.trod enc Try.prog W 0 (fun _ => true) true n 26 [b9] = some (xs[9]'(by omega)) := by rw [← List.getElem?_eq_getElem]; simpa [hk26] using hf 9 _ rfl
    have f10 : DataW.trod enc Try.prog W 0 (fun _ => true) true n 3 [b10] = some (xs[10]'(by omega)) := by rw [← List.getElem?_eq_getElem]; simpa [hk3] using hf 10 _ rfl
    obtain ⟨a, rfl, ga⟩ := read_int h0
    obtain ⟨p0, rfl, g0⟩ := read_int f0
    obtain ⟨p1, rfl, g1⟩ := read_int f1
    obtain ⟨p2, rfl, g2⟩ := read_int f2
    obtain ⟨p3, rfl, g3⟩ := read_int f3
    obtain ⟨p4, rfl, g4⟩ := read_int f4
    obtain ⟨p5, rfl, g5⟩ := read_int f5
    obtain ⟨p10, rfl, g10⟩ := read_int f10
    obtain ⟨ob, cb, bs, rfl, hb, hbl, _⟩ := open_enc bE (fun _ => True) Try.underlying30 (by kernel_rfl) read_b rfl f6
    obtain ⟨oa, ca, es, rfl, ha, hal, _⟩ := open_enc bE (fun _ => True) Try.underlying30 (by kernel_rfl) read_b rfl f7
    obtain ⟨ot, ct, ts, rfl, htt, htl, _⟩ := open_enc tE (fun x : Tx => okI x.id ∧ okI x.last ∧ okI x.st) Try.underlying25 (by kernel_rfl) read_tx rfl f8
    obtain ⟨od, cd, ds, rfl, hd, hdl, _⟩ := open_enc dE (fun x : Dy => okI x.page ∧ okI x.lsn) Try.underlying26 (by kernel_rfl) read_dy rfl f9
    exact ⟨{ lsn := a, kind := p0, txn := p1, prev := p2, next := p3, page := p4, off := p5, ob := ob, bs := bs, cb := cb, oa := oa, es := es, ca := ca, ot := ot, ts := ts, ct := ct, od := od, ds := ds, cd := cd, cnt := p10 }, rfl, ⟨hb, ha, htt, hd⟩, g4, ga, hbl, hal, htl, hdl⟩
set_option maxRecDepth 100000 in
theorem open_lines {v : Value} {d : DataW H} {p : List MemPlace} {r : _root_.Go.Reach} {b0 : Nat} (hv : Value.okWide Try.prog W r b0 23 v) (h : DataW.Trod enc Try.prog W 0 (fun _ => true) true 23 v d p) : ∃ oa c l, v = .slice oa l.length c ∧ LAt W oa l ∧ l.length ≤ 9223372036854775807 ∧ ∀ x ∈ l, LnIn W x := by
  obtain ⟨a, len, c, rfl⟩ := okWide_slice Try.underlying23 hv
  obtain ⟨fuel, h⟩ := h
  obtain ⟨oa, c, l, e, hat, hl, _, hg⟩ := open_enc nE (LnIn W) Try.underlying23 (by kernel_rfl) read_ln rfl h
  exact ⟨oa, c, l, e, ⟨hat, fun x hx => (hg x hx).ok⟩, hl, hg⟩
set_option maxRecDepth 100000 in
theorem open_dirties {v : Value} {d : DataW H} {p : List MemPlace} {r : _root_.Go.Reach} {b0 : Nat} (hv : Value.okWide Try.prog W r b0 26 v) (h : DataW.Trod enc Try.prog W 0 (fun _ => true) true 26 v d p) : ∃ oa c l, v = .slice oa l.length c ∧ DAt W oa l ∧ l.length ≤ 9223372036854775807 ∧ ∀ x ∈ l, okI x.page ∧ okI x.lsn := by
  obtain ⟨a, len, c, rfl⟩ := okWide_slice Try.underlying26 hv
  obtain ⟨fuel, h⟩ := h
  obtain ⟨oa, c, l, e, hat, hl, _, hg⟩ := open_enc dE (fun x : Dy => okI x.page ∧ okI x.lsn) Try.underlying26 (by kernel_rfl) read_dy rfl h
  exact ⟨oa, c, l, e, hat, hl, hg⟩
set_option maxRecDepth 100000 in
theorem open_nums {v : Value} {d : DataW H} {p : List MemPlace} {r : _root_.Go.Reach} {b0 : Nat} (hv : Value.okWide Try.prog W r b0 38 v) (h : DataW.Trod enc Try.prog W 0 (fun _ => true) true 38 v d p) : ∃ oa c l, v = .slice oa l.length c ∧ IAt W oa l ∧ l.length ≤ 9223372036854775807 ∧ ∀ x ∈ l, okI x := by
  obtain ⟨a, len, c, rfl⟩ := okWide_slice Try.underlying38 hv
  obtain ⟨fuel, h⟩ := h
  obtain ⟨oa, c, l, e, hat, hl, _, hg⟩ := open_enc iE okI Try.underlying38 (by kernel_rfl) read_i rfl h
  exact ⟨oa, c, l, e, hat, hl, hg⟩
theorem read_sp : ∀ cs m y, cs.length = 4 → DataW.trod enc Try.prog W 0 (fun _ => true) true m 60 cs = some y → ∃ x : Sp, sF x = cs ∧ True := by
  intro cs m y hlen ht
  have hk3 : Try.prog.cellsOf 3 = 1 := by kernel_rfl
  obtain ⟨z0, z1, z2, z3, q, _, _, h0, h1, h2, h3⟩ := trod_struct4 Try.underlying60 ht
  match cs, hlen, h0, h1, h2, h3 with
  | [u0, u1, u2, u3], _, h0, h1, h2, h3 =>
    simp [hk3] at h0 h1 h2 h3
    obtain ⟨p0, rfl, _⟩ := read_int h0
    obtain ⟨p1, rfl, _⟩ := read_int h1
    obtain ⟨p2, rfl, _⟩ := read_int h2
    obtain ⟨p3, rfl, _⟩ := read_int h3
    exact ⟨⟨p0, p1, p2, p3⟩, rfl, trivial⟩
set_option maxRecDepth 100000 in
theorem open_steps {v : Value} {d : DataW H} {p : List MemPlace} {r : _root_.Go.Reach} {b0 : Nat} (hv : Value.okWide Try.prog W r b0 22 v) (h : DataW.Trod enc Try.prog W 0 (fun _ => true) true 22 v d p) : ∃ oa c l, v = .slice oa l.length c ∧ StAt W oa l ∧ l.length ≤ 9223372036854775807 ∧ True := by
  obtain ⟨a, len, c, rfl⟩ := okWide_slice Try.underlying22 hv
  obtain ⟨fuel, h⟩ := h
  obtain ⟨oa, c, l, e, hat, hl, _, hg⟩ := open_enc sE (fun _ : Sp => True) Try.underlying22 (by kernel_rfl) read_sp rfl h
  exact ⟨oa, c, l, e, hat, hl, trivial⟩
set_option maxRecDepth 100000 in
theorem open_num {v : Value} {d : DataW H} {p : List MemPlace} {r : _root_.Go.Reach} {b0 : Nat} (hv : Value.okWide Try.prog W r b0 3 v) (h : DataW.Trod enc Try.prog W 0 (fun _ => true) true 3 v d p) : ∃ n, v = .int .i64 n ∧ True := by
  obtain ⟨n, rfl, _⟩ := open_int Try.underlying3 hv h
  exact ⟨n, rfl, trivial⟩
end
end Go.Proofs.Ytmanokhadppeeaa
