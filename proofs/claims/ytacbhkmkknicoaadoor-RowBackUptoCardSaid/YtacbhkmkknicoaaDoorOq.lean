/- row: lists, rows and tables that came in. (By mkOq.py.) -/
import Derived.Test.YtacbhkmkknicoaaDoorPost
import Derived.Test.YtacbhkmkknicoaaDoorK1
import Derived.Carry
import Derived.Deep.Slices
import Derived.Deep.Fields
import Derived.Deep.Strs
import Derived.ChangeSame
import Derived.Lib.SmallJoins
namespace Go.Proofs.YtacbhkmkknicoaaDoor
open Go.ChangeShapes Go.WideShapes Go.RowKit Go.Deep Go.Joins
set_option linter.unusedVariables false
set_option linter.unusedSimpArgs false
theorem laidOut : laidOutB Tryd.prog = true := by kernel_rfl
theorem list_of {α : Type} (n : Nat) (Q : Nat → α → Prop) (h : ∀ i, i < n → ∃ x, Q i x) : ∃ l : List α, l.length = n ∧ ∀ k (hk : k < l.length), Q k l[k] := by
  induction n with
  | zero => exact ⟨[], rfl, fun k hk => by simp at hk⟩
  | succ n ih =>
    obtain ⟨l, hl, hq⟩ := ih fun i hi => h i (by omega)
    obtain ⟨x, hx⟩ := h n (by omega)
    refine ⟨l ++ [x], by simp [hl], fun k hk => ?_⟩
    by_cases hlt : k < l.length
    · rw [List.getElem_append_left hlt]; exact hq k hlt
    · have : k = n := by simp at hk; omega
      subst this
      rw [List.getElem_append_right (by omega)]
      simpa [hl] using hx
section
variable {H : Type} {enc : TypeId × Value → H} {W W' : World}
set_option maxRecDepth 100000 in
theorem keep_arg {t : TypeId} (hr : Tryd.prog.readableRec t = true) (hrow : t < Tryd.prog.types.size) {v : Value} {d : DataW H} {ps : List MemPlace} (h : DataW.Trod enc Tryd.prog W 0 (fun _ => true) true t v d ps) (hb : Below W.heap.size W W') (hlt : ∀ x ∈ ps, x.block < W.heap.size) {sp : Nat → Bool} (hs : ∀ p ∈ ps, sp p.block = true) :
    DataW.Trod enc Tryd.prog W' 0 sp true t v d ps :=
  WideElems.Trod_stays laidOut hr hrow h (fun x hx => hb.same (hlt x hx)) hs
theorem bulk_sum {α : Type} (wt : α → Nat) : ∀ (l : List α) (es : List (DataW H × List MemPlace)), l.length = es.length → (∀ i (h : i < l.length) (h' : i < es.length), wt l[i] ≤ Rows.uptoBulk es[i].1) → (l.map wt).sum ≤ Rows.uptoBulkAll (es.map (·.1))
  | [], [], _, _ => by simp [Rows.uptoBulkAll]
  | [], _ :: _, h, _ => by simp at h
  | _ :: _, [], h, _ => by simp at h
  | x :: r, y :: s, h, hq => by
    have h0 := hq 0 (by simp) (by simp)
    have ih := bulk_sum wt r s (by simpa using h) (fun i h1 h2 => hq (i + 1) (by simp; omega) (by simp; omega))
    simp only [List.map_cons, List.sum_cons, Rows.uptoBulkAll]
    simp only [List.getElem_cons_zero] at h0
    omega
/-- a slice of structs that are read cell by cell, and what they weigh -/
theorem open_enc {α : Type} {f : α → List Value} {n : Nat} (he : Enc f n) (good : α → Prop) (wt : α → Nat) {t e : TypeId} (hu : Tryd.prog.underlying t = some (.slice e)) (hC : Tryd.prog.cellsOf e = n)
    (hr : ∀ cs m y, cs.length = n → DataW.trod enc Tryd.prog W 0 (fun _ => true) true m e cs = some y → ∃ x, f x = cs ∧ good x ∧ wt x ≤ Rows.uptoBulk y.1) {fuel : Nat} {v : Value} {x : DataW H × List MemPlace} {cs0 : List Value} (hv : cs0 = [v]) (h : DataW.trod enc Tryd.prog W 0 (fun _ => true) true fuel t cs0 = some x) :
    ∃ oa c l, v = .slice oa l.length c ∧ AtF f n W oa l ∧ l.length ≤ 9223372036854775807 ∧ l.length ≤ c ∧ (∀ x ∈ l, good x) ∧ (l.map wt).sum ≤ Rows.uptoBulk x.1 := by
  have hn := he.pos
  subst hv
  rcases DataW.trod_slice hu h with ⟨e2, rfl⟩ | ⟨a, len, cap, elems, rest, m, _, e2, rfl, _, hl, hm, hel, hi, _⟩
  · simp only [List.cons.injEq, and_true] at e2
    subst e2
    exact ⟨none, 0, [], rfl, .inl rfl, by simp, by simp, by simp, by simp⟩
  · simp only [List.cons.injEq, and_true] at e2
    subst e2
    rw [hC] at hi
    have hm' : len ≤ 9223372036854775807 := by unfold maxLen at hm; omega
    by_cases hz : len = 0
    · subst hz
      exact ⟨some a, cap, [], rfl, .inl rfl, by simp, by simp, by simp, by simp⟩
    · have hall : ∀ i, i < len → ∃ x : α, (∃ cs, cs.length = n ∧ f x = cs ∧ ∀ j, j < n → W.cell? ((a.add (i * n)).add j) = cs[j]?) ∧ good x ∧ ∀ h' : i < elems.length, wt x ≤ Rows.uptoBulk (elems[i]'h').1 := fun i hlt => by
        have h3 := hi i hlt
        rw [List.getElem?_eq_getElem (by omega)] at h3
        obtain ⟨cs, hc, ht⟩ := Option.bind_eq_some_iff.1 h3
        obtain ⟨_, hlen, hcell⟩ := World.cells?_some hc
        obtain ⟨x, hx, hg, hw⟩ := hr cs m _ hlen ht
        exact ⟨x, ⟨cs, hlen, hx, hcell⟩, hg, fun _ => hw⟩
      obtain ⟨l, hll, hq⟩ := list_of len _ hall
      obtain ⟨b, off, spot⟩ := a
      obtain ⟨⟨cs, hcl, hcx, hcc⟩, _, _⟩ := hq 0 (by omega)
      have h0 := hcc 0 hn
      rw [List.getElem?_eq_getElem (by omega)] at h0
      have hspot : spot = none := by simpa [Addr.add] using World.cell?_spot h0
      subst hspot
      have hbl : b < W.heap.size := by
        have := World.block_lt_of_cell? _ _ h0
        rwa [addN, addN] at this
      refine ⟨_, cap, l, by rw [hll], .inr ⟨b, off, rfl, hbl, fun k hk j u hu => ?_⟩, by omega, by omega, fun x hx => ?_, ?_⟩
      · obtain ⟨⟨cs, hcl, hcx, hcc⟩, _, _⟩ := hq k hk
        have hj : j < n := by rw [← he.len l[k]]; exact (List.getElem?_eq_some_iff.1 hu).1
        have := hcc j hj
        rw [addN, addN] at this
        rw [this, ← hcx, hu]
      · obtain ⟨k, hk, rfl⟩ := List.getElem_of_mem hx
        exact (hq k hk).2.1
      · have := bulk_sum wt l elems (by omega) (fun i h1 h2 => (hq i h1).2.2 h2)
        simp only [Rows.uptoBulk]
        omega
theorem read_int {m : Nat} {u : Value} {y : DataW H × List MemPlace} (h : DataW.trod enc Tryd.prog W 0 (fun _ => true) true m 3 [u] = some y) : ∃ p, u = .int .i64 p ∧ okI p ∧ Rows.uptoBulk y.1 = 1 := by
  obtain ⟨p, e, e2, hw⟩ := DataW.trod_int Tryd.underlying3 h
  simp at e
  subst e2
  exact ⟨p, e, ok_of_wf hw, rfl⟩
theorem read_str {m : Nat} {u : Value} {y : DataW H × List MemPlace} (h : DataW.trod enc Tryd.prog W 0 (fun _ => true) true m 9 [u] = some y) : ∃ p : ByteArray, u = .string p ∧ Rows.uptoBulk y.1 = p.size + 1 := by
  obtain ⟨p, e, e2, hw⟩ := DataW.trod_string Tryd.underlying9 h
  simp at e
  subst e2
  exact ⟨p, e, rfl⟩
theorem read_bool {m : Nat} {u : Value} {y : DataW H × List MemPlace} (h : DataW.trod enc Tryd.prog W 0 (fun _ => true) true m 4 [u] = some y) : ∃ p : Bool, u = .bool p ∧ Rows.uptoBulk y.1 = 1 := by
  obtain ⟨p, e, e2⟩ := DataW.trod_bool Tryd.underlying4 h
  simp at e
  subst e2
  exact ⟨p, e, rfl⟩
theorem read_i : ∀ cs m y, cs.length = 1 → DataW.trod enc Tryd.prog W 0 (fun _ => true) true m 3 cs = some y → ∃ x : Int, iF x = cs ∧ okI x ∧ 1 ≤ Rows.uptoBulk y.1 := by
  intro cs m y hlen ht
  match cs, hlen with
  | [u0], _ =>
    obtain ⟨p0, rfl, g0, g1⟩ := read_int ht
    exact ⟨p0, rfl, g0, by omega⟩
theorem read_b : ∀ cs m y, cs.length = 1 → DataW.trod enc Tryd.prog W 0 (fun _ => true) true m 5 cs = some y → ∃ x : Int, bF x = cs ∧ (0 ≤ x ∧ x < 256) ∧ 1 ≤ Rows.uptoBulk y.1 := by
  intro cs m y hlen ht
  match cs, hlen with
  | [u0], _ =>
    obtain ⟨p, e, e2, hw⟩ := DataW.trod_int Tryd.underlying5 ht
    simp at e
    subst e
    subst e2
    have hw' : IntKind.u8.min ≤ p ∧ p ≤ IntKind.u8.max := by simpa [Lit.wf] using hw
    have e1 : IntKind.u8.min = 0 := by decide
    have e2 : IntKind.u8.max = 255 := by decide
    exact ⟨p, rfl, ⟨by omega, by omega⟩, Nat.le_refl _⟩
/-- what a value weighs -/
def wtV (v : V) : Nat := v.s.size + 5
set_option maxRecDepth 100000 in
theorem read_v : ∀ cs m y, cs.length = 4 → DataW.trod enc Tryd.prog W 0 (fun _ => true) true m 32 cs = some y → ∃ x : V, vF x = cs ∧ (okI x.t ∧ okI x.n) ∧ wtV x ≤ Rows.uptoBulk y.1 := by
  intro cs m y hlen ht
  have hk3 : Tryd.prog.cellsOf 3 = 1 := by kernel_rfl
  have hk4 : Tryd.prog.cellsOf 4 = 1 := by kernel_rfl
  have hk9 : Tryd.prog.cellsOf 9 = 1 := by kernel_rfl
  obtain ⟨z0, z1, z2, z3, q, rfl, _, h0, h1, h2, h3⟩ := trod_struct4 Tryd.underlying32 ht
  match cs, hlen, h0, h1, h2, h3 with
  | [u0, u1, u2, u3], _, h0, h1, h2, h3 =>
    simp [hk3, hk4, hk9] at h0 h1 h2 h3
    obtain ⟨p0, rfl, g0, w0⟩ := read_int h0
    obtain ⟨p1, rfl, g1, w1⟩ := read_int h1
    obtain ⟨p2, rfl, w2⟩ := read_str h2
    obtain ⟨p3, rfl, w3⟩ := read_bool h3
    refine ⟨⟨p0, p1, p2, p3⟩, rfl, ⟨g0, g1⟩, ?_⟩
    simp only [Rows.uptoBulk, Rows.uptoBulkAll, wtV]
    omega
def wtC (c : Col) : Nat := c.nm.size + 5
def wtX (x : Ix) : Nat := x.nm.size + 4
set_option maxRecDepth 100000 in
theorem read_c : ∀ cs m y, cs.length = 4 → DataW.trod enc Tryd.prog W 0 (fun _ => true) true m 24 cs = some y → ∃ x : Col, cF x = cs ∧ okI x.ty ∧ wtC x ≤ Rows.uptoBulk y.1 := by
  intro cs m y hlen ht
  have hk3 : Tryd.prog.cellsOf 3 = 1 := by kernel_rfl
  have hk4 : Tryd.prog.cellsOf 4 = 1 := by kernel_rfl
  have hk9 : Tryd.prog.cellsOf 9 = 1 := by kernel_rfl
  obtain ⟨z0, z1, z2, z3, q, rfl, _, h0, h1, h2, h3⟩ := trod_struct4 Tryd.underlying24 ht
  match cs, hlen, h0, h1, h2, h3 with
  | [u0, u1, u2, u3], _, h0, h1, h2, h3 =>
    simp [hk3, hk4, hk9] at h0 h1 h2 h3
    obtain ⟨p0, rfl, w0⟩ := read_str h0
    obtain ⟨p1, rfl, g1, w1⟩ := read_int h1
    obtain ⟨p2, rfl, w2⟩ := read_bool h2
    obtain ⟨p3, rfl, w3⟩ := read_bool h3
    refine ⟨⟨p0, p1, p2, p3⟩, rfl, g1, ?_⟩
    simp only [Rows.uptoBulk, Rows.uptoBulkAll, wtC]
    omega
set_option maxRecDepth 100000 in
theorem read_x : ∀ cs m y, cs.length = 3 → DataW.trod enc Tryd.prog W 0 (fun _ => true) true m 60 cs = some y → ∃ x : Ix, xF x = cs ∧ okI x.co ∧ wtX x ≤ Rows.uptoBulk y.1 := by
  intro cs m y hlen ht
  have hk3 : Tryd.prog.cellsOf 3 = 1 := by kernel_rfl
  have hk4 : Tryd.prog.cellsOf 4 = 1 := by kernel_rfl
  have hk9 : Tryd.prog.cellsOf 9 = 1 := by kernel_rfl
  obtain ⟨z0, z1, z2, q, rfl, _, h0, h1, h2⟩ := trod_struct3 Tryd.underlying60 ht
  match cs, hlen, h0, h1, h2 with
  | [u0, u1, u2], _, h0, h1, h2 =>
    simp [hk3, hk4, hk9] at h0 h1 h2
    obtain ⟨p0, rfl, w0⟩ := read_str h0
    obtain ⟨p1, rfl, g1, w1⟩ := read_int h1
    obtain ⟨p2, rfl, w2⟩ := read_bool h2
    refine ⟨⟨p0, p1, p2⟩, rfl, g1, ?_⟩
    simp only [Rows.uptoBulk, Rows.uptoBulkAll, wtX]
    omega
set_option maxRecDepth 100000 in
theorem open_vals {v : Value} {d : DataW H} {p : List MemPlace} {r : _root_.Go.Reach} {b0 : Nat} (hv : Value.okWide Tryd.prog W r b0 35 v) (h : DataW.Trod enc Tryd.prog W 0 (fun _ => true) true 35 v d p) : ∃ oa c l, v = .slice oa l.length c ∧ VAt W oa l ∧ l.length ≤ 9223372036854775807 ∧ l.length ≤ c ∧ (∀ x ∈ l, okI x.t ∧ okI x.n) ∧ (l.map wtV).sum ≤ Rows.uptoBulk d := by
  obtain ⟨a, len, c, rfl⟩ := okWide_slice Tryd.underlying35 hv
  obtain ⟨fuel, h⟩ := h
  obtain ⟨oa, c, l, e, hat, hl, hc, hg, hw⟩ := open_enc vE (fun x : V => okI x.t ∧ okI x.n) wtV Tryd.underlying35 (by kernel_rfl) read_v rfl h
  exact ⟨oa, c, l, e, hat, hl, hc, hg, hw⟩
set_option maxRecDepth 100000 in
theorem open_bytes {v : Value} {d : DataW H} {p : List MemPlace} {r : _root_.Go.Reach} {b0 : Nat} (hv : Value.okWide Tryd.prog W r b0 30 v) (h : DataW.Trod enc Tryd.prog W 0 (fun _ => true) true 30 v d p) : ∃ oa c l, v = .slice oa l.length c ∧ BAt W oa l ∧ l.length ≤ 9223372036854775807 ∧ l.length ≤ c ∧ (∀ x ∈ l, 0 ≤ x ∧ x < 256) ∧ (l.map fun _ => 1).sum ≤ Rows.uptoBulk d := by
  obtain ⟨a, len, c, rfl⟩ := okWide_slice Tryd.underlying30 hv
  obtain ⟨fuel, h⟩ := h
  obtain ⟨oa, c, l, e, hat, hl, hc, hg, hw⟩ := open_enc bE (fun x : Int => 0 ≤ x ∧ x < 256) (fun _ => 1) Tryd.underlying30 (by kernel_rfl) read_b rfl h
  exact ⟨oa, c, l, e, hat, hl, hc, hg, hw⟩
/-- a table that came in -/
structure TbIn (W : World) (t : Tb) : Prop where
  at' : TbAt W t
  c : ∀ x ∈ t.cs, okI x.ty
  x : ∀ x ∈ t.xs, okI x.co
  h : okI t.hd
  r : ∀ x ∈ t.rs, okI x
def wtT (t : Tb) : Nat := t.nm.size + (t.cs.map wtC).sum + (t.xs.map wtX).sum + (t.rs.map fun _ => 1).sum
set_option maxRecDepth 100000 in
theorem open_table {v : Value} {d : DataW H} {p : List MemPlace} {r : _root_.Go.Reach} {b0 : Nat} (hv : Value.okWide Tryd.prog W r b0 29 v) (h : DataW.Trod enc Tryd.prog W 0 (fun _ => true) true 29 v d p) : ∃ t : Tb, v = t.val ∧ TbIn W t ∧ wtT t ≤ Rows.uptoBulk d := by
  have hk3 : Tryd.prog.cellsOf 3 = 1 := by kernel_rfl
  have hk9 : Tryd.prog.cellsOf 9 = 1 := by kernel_rfl
  have hk25 : Tryd.prog.cellsOf 25 = 1 := by kernel_rfl
  have hk26 : Tryd.prog.cellsOf 26 = 1 := by kernel_rfl
  have hk27 : Tryd.prog.cellsOf 27 = 1 := by kernel_rfl
  obtain ⟨cs, rfl, hsz⟩ := okWide_struct Tryd.underlying29 hv
  have hC : Tryd.prog.cellsOf 29 = 5 := by kernel_rfl
  rw [hC] at hsz
  obtain ⟨fuel, hf⟩ := h
  obtain ⟨xs, n, _, hx, _, hxl, hfs⟩ := DataW.trod_struct Tryd.underlying29 hf
  obtain ⟨cs⟩ := cs
  match cs, hsz with
  | [b0', b1, b2, b3, b4], _ =>
    have hx5 : xs.length = 5 := hxl
    match xs, hx5 with
    | [x0, x1, x2, x3, x4], _ =>
      have f0 : DataW.trod enc Tryd.prog W 0 (fun _ => true) true n 9 [b0'] = some x0 := by simpa [hk9, Value.cells] using hfs 0 _ rfl
      have f1 : DataW.trod enc Tryd.prog W 0 (fun _ => true) true n 25 [b1] = some x1 := by simpa [hk25, Value.cells] using hfs 1 _ rfl
      have f2 : DataW.trod enc Tryd.prog W 0 (fun _ => true) true n 26 [b2] = some x2 := by simpa [hk26, Value.cells] using hfs 2 _ rfl
      have f3 : DataW.trod enc Tryd.prog W 0 (fun _ => true) true n 3 [b3] = some x3 := by simpa [hk3, Value.cells] using hfs 3 _ rfl
      have f4 : DataW.trod enc Tryd.prog W 0 (fun _ => true) true n 27 [b4] = some x4 := by simpa [hk27, Value.cells] using hfs 4 _ rfl
      obtain ⟨p0, rfl, w0⟩ := read_str f0
      obtain ⟨oc, cc, cs, rfl, hc, hcl, _, hcg, hcw⟩ := open_enc cE (fun x : Col => okI x.ty) wtC Tryd.underlying25 (by kernel_rfl) read_c rfl f1
      obtain ⟨ox, cx, xs, rfl, hx', hxl', _, hxg, hxw⟩ := open_enc xE (fun x : Ix => okI x.co) wtX Tryd.underlying26 (by kernel_rfl) read_x rfl f2
      obtain ⟨p3, rfl, g3, w3⟩ := read_int f3
      obtain ⟨od, cr, rs, rfl, hr, hrl, _, hrg, hrw⟩ := open_enc iE okI (fun _ => 1) Tryd.underlying27 (by kernel_rfl) read_i rfl f4
      refine ⟨⟨p0, oc, cs, cc, ox, xs, cx, p3, od, rs, cr⟩, rfl, ⟨⟨hc, hx', hr, hcl, hxl', hrl⟩, hcg, hxg, g3, hrg⟩, ?_⟩
      have hd : d = .agg [x0.1, x1.1, x2.1, x3.1, x4.1] := by
        have := congrArg Prod.fst hx
        simpa using this
      subst hd
      simp only [wtT, Rows.uptoBulk, Rows.uptoBulkAll]
      omega
end
end Go.Proofs.YtacbhkmkknicoaaDoor
