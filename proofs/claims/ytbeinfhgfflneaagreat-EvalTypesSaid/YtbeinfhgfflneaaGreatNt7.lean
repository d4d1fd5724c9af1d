/- Texts of this claim, put together: walks of functions and plain laws, of no condition. -/
import Derived.Test.YtbeinfhgfflneaaGreatNt6
import Derived.Carry
import Derived.Deep.Slices
import Derived.Deep.Fields
import Derived.Deep.Strs
section
namespace Go.Proofs.YtbeinfhgfflneaaGreat
open Go.ChangeShapes Go.WideShapes Go.RowKit Go.Deep Go.Joins
set_option linter.unusedVariables false
set_option linter.unusedSimpArgs false
theorem laidOut : laidOutB Tryz.prog = true := by kernel_rfl
theorem list_of {α : Type} (n : Nat) (Q : Nat → α → Prop) (h : ∀ i, i < n → ∃ x, Q i x) : ∃ l : List α, l.length = n ∧ ∀ k (hk : k < l.length), Q k l[k] := by
  induction n with
  | zero => exact ⟨[], rfl, fun k hk => by simp at hk⟩
  | succ n ih =>
    obtain ⟨l, hl, hq⟩ := ih fun i hi => h i (by omega)
    obtain ⟨x, hx⟩ := h n (by omega)
    refine ⟨l ++ [x], by simp [hl], fun k hk => ?_⟩
    by_cases hlt : k < l.length
    · rw [List.getElem_append_left hlt]; exact hq k hlt
    · have : k = n := by simp at hk; omega
      subst this
      rw [List.getElem_append_right (by omega)]
      simpa [hl] using hx
section
variable {H : Type} {enc : TypeId × Value → H} {W W' : World}
set_option maxRecDepth 100000 in
theorem keep_arg {t : TypeId} (hr : Tryz.prog.readableRec t = true) (hrow : t < Tryz.prog.types.size) {v : Value} {d : DataW H} {ps : List MemPlace} (h : DataW.Trod enc Tryz.prog W 0 (fun _ => true) true t v d ps) (hb : Below W.heap.size W W') (hlt : ∀ x ∈ ps, x.block < W.heap.size) {sp : Nat → Bool} (hs : ∀ p ∈ ps, sp p.block = true) :
    DataW.Trod enc Tryz.prog W' 0 sp true t v d ps :=
  WideElems.Trod_stays laidOut hr hrow h (fun x hx => hb.same (hlt x hx)) hs
def WOk (t : TypeId) (d : DataW H) : Prop := ∀ n ∈ d.weights Tryz.prog t, n ≤ 140737488355328
theorem weights_all {e : TypeId} {d : DataW H} {n : Nat} (hn : n ∈ d.weights Tryz.prog e) : ∀ {l : List (DataW H)}, d ∈ l → n ∈ DataW.weightsAll Tryz.prog e l
  | [], h => by simp at h
  | x :: l, h => by
    simp only [DataW.weightsAll, List.mem_append]
    rcases List.mem_cons.1 h with rfl | h
    · exact .inl hn
    · exact .inr (weights_all hn h)
theorem open_enc {α : Type} {f : α → List Value} {n : Nat} (he : Enc f n) (good : α → Prop) {t e : TypeId} (hu : Tryz.prog.underlying t = some (.slice e)) (hC : Tryz.prog.cellsOf e = n)
    (hr : ∀ cs m y, cs.length = n → DataW.trod enc Tryz.prog W 0 (fun _ => true) true m e cs = some y → WOk e y.1 → ∃ x, f x = cs ∧ good x) {fuel : Nat} {v : Value} {x : DataW H × List MemPlace} {cs0 : List Value} (hv : cs0 = [v]) (h : DataW.trod enc Tryz.prog W 0 (fun _ => true) true fuel t cs0 = some x) (hw : WOk t x.1) :
    ∃ oa c l, v = .slice oa l.length c ∧ AtF f n W oa l ∧ (∀ x ∈ l, good x) ∧ l.length * Tryz.prog.bytesOf e ≤ 140737488355328 := by
  have hn := he.pos
  subst hv
  rcases DataW.trod_slice hu h with ⟨e2, rfl⟩ | ⟨a, len, cap, elems, rest, m, _, e2, rfl, _, hl, hm, hel, hi, _⟩
  · simp only [List.cons.injEq, and_true] at e2
    subst e2
    exact ⟨none, 0, [], rfl, .inl rfl, by simp, by simp⟩
  · simp only [List.cons.injEq, and_true] at e2
    subst e2
    rw [hC] at hi
    have hlen : len * Tryz.prog.bytesOf e ≤ 140737488355328 := by
      have h1 := hw ((elems.length + rest.length) * Tryz.prog.bytesOf e) (by simp [DataW.weights, hu])
      refine Nat.le_trans (Nat.mul_le_mul_right _ ?_) h1
      omega
    by_cases hz : len = 0
    · subst hz
      exact ⟨some a, cap, [], rfl, .inl rfl, by simp, by simp⟩
    · have hall : ∀ i, i < len → ∃ x : α, (∃ cs, cs.length = n ∧ f x = cs ∧ ∀ j, j < n → W.cell? ((a.add (i * n)).add j) = cs[j]?) ∧ good x := fun i hlt => by
        have h3 := hi i hlt
        rw [List.getElem?_eq_getElem (by omega)] at h3
        obtain ⟨cs, hc, ht⟩ := Option.bind_eq_some_iff.1 h3
        obtain ⟨_, hlen, hcell⟩ := World.cells?_some hc
        obtain ⟨x, hx, hg⟩ := hr cs m _ hlen ht (fun q hq => hw q (by
          simp only [DataW.weights, hu, List.mem_cons, List.mem_append]
          exact .inr (.inl (weights_all hq (List.mem_map_of_mem (List.getElem_mem _))))))
        exact ⟨x, ⟨cs, hlen, hx, hcell⟩, hg⟩
      obtain ⟨l, hll, hq⟩ := list_of len _ hall
      obtain ⟨b, off, spot⟩ := a
      obtain ⟨⟨cs, hcl, hcx, hcc⟩, _⟩ := hq 0 (by omega)
      have h0 := hcc 0 hn
      rw [List.getElem?_eq_getElem (by omega)] at h0
      have hspot : spot = none := by simpa [Addr.add] using World.cell?_spot h0
      subst hspot
      have hbl : b < W.heap.size := by
        have := World.block_lt_of_cell? _ _ h0
        rwa [addN, addN] at this
      refine ⟨_, cap, l, by rw [hll], .inr ⟨b, off, rfl, hbl, fun k hk j u hu => ?_⟩, fun x hx => ?_, by rw [hll]; exact hlen⟩
      · obtain ⟨⟨cs, hcl, hcx, hcc⟩, _⟩ := hq k hk
        have hj : j < n := by rw [← he.len l[k]]; exact (List.getElem?_eq_some_iff.1 hu).1
        have := hcc j hj
        rw [addN, addN] at this
        rw [this, ← hcx, hu]
      · obtain ⟨k, hk, rfl⟩ := List.getElem_of_mem hx
        exact (hq k hk).2
theorem read_int {m : Nat} {u : Value} {y : DataW H × List MemPlace} (h : DataW.trod enc Tryz.prog W 0 (fun _ => true) true m 3 [u] = some y) : ∃ p, u = .int .i64 p ∧ Bd p ∧ y.1 = .lit (.int .i64 p) := by
  obtain ⟨p, e, e2, hw⟩ := DataW.trod_int Tryz.underlying3 h
  simp at e
  subst e2
  exact ⟨p, e, bd_of_wf hw, rfl⟩
theorem read_str {m : Nat} {u : Value} {y : DataW H × List MemPlace} (h : DataW.trod enc Tryz.prog W 0 (fun _ => true) true m 9 [u] = some y) : ∃ p : ByteArray, u = .string p ∧ y.1 = .lit (.string p.data.toList) := by
  obtain ⟨p, e, e2, hw⟩ := DataW.trod_string Tryz.underlying9 h
  simp at e
  subst e2
  exact ⟨p, e, rfl⟩
theorem read_bool {m : Nat} {u : Value} {y : DataW H × List MemPlace} (h : DataW.trod enc Tryz.prog W 0 (fun _ => true) true m 4 [u] = some y) : ∃ p : Bool, u = .bool p ∧ y.1 = .lit (.bool p) := by
  obtain ⟨p, e, e2⟩ := DataW.trod_bool Tryz.underlying4 h
  simp at e
  subst e2
  exact ⟨p, e, rfl⟩
set_option maxRecDepth 100000 in
theorem read_v : ∀ cs m (y : DataW H × List MemPlace), cs.length = 4 → DataW.trod enc Tryz.prog W 0 (fun _ => true) true m 23 cs = some y → WOk 23 y.1 → ∃ x : V, vF x = cs ∧ VB 140737488355328 x := by
  intro cs m y hlen ht hw
  have hk3 : Tryz.prog.cellsOf 3 = 1 := by kernel_rfl
  have hk4 : Tryz.prog.cellsOf 4 = 1 := by kernel_rfl
  have hk9 : Tryz.prog.cellsOf 9 = 1 := by kernel_rfl
  obtain ⟨z0, z1, z2, z3, q, rfl, _, h0, h1, h2, h3⟩ := trod_struct4 Tryz.underlying23 ht
  match cs, hlen, h0, h1, h2, h3 with
  | [u0, u1, u2, u3], _, h0, h1, h2, h3 =>
    simp [hk3, hk4, hk9] at h0 h1 h2 h3
    obtain ⟨p0, rfl, g0, w0⟩ := read_int h0
    obtain ⟨p1, rfl, g1, w1⟩ := read_int h1
    obtain ⟨p2, rfl, w2⟩ := read_str h2
    obtain ⟨p3, rfl, w3⟩ := read_bool h3
    refine ⟨⟨p0, p1, p2, p3⟩, rfl, g1, ?_⟩
    have := hw p2.data.toList.length (by
      simp [DataW.weights, Tryz.underlying23, DataW.weightsEach, w0, w1, w2, w3])
    exact this
def crF (x : Cn × Bool × Bool) : List Value := colF x.1 x.2.1 x.2.2
theorem crE : Enc crF 4 := ⟨fun _ => rfl, fun x u hu => by simp [crF, colF] at hu; rcases hu with rfl | rfl | rfl | rfl <;> rfl, by omega⟩
set_option maxRecDepth 100000 in
theorem read_c : ∀ cs m (y : DataW H × List MemPlace), cs.length = 4 → DataW.trod enc Tryz.prog W 0 (fun _ => true) true m 44 cs = some y → WOk 44 y.1 → ∃ x : Cn × Bool × Bool, crF x = cs ∧ True := by
  intro cs m y hlen ht hw
  have hk3 : Tryz.prog.cellsOf 3 = 1 := by kernel_rfl
  have hk4 : Tryz.prog.cellsOf 4 = 1 := by kernel_rfl
  have hk9 : Tryz.prog.cellsOf 9 = 1 := by kernel_rfl
  obtain ⟨z0, z1, z2, z3, q, rfl, _, h0, h1, h2, h3⟩ := trod_struct4 Tryz.underlying44 ht
  match cs, hlen, h0, h1, h2, h3 with
  | [u0, u1, u2, u3], _, h0, h1, h2, h3 =>
    simp [hk3, hk4, hk9] at h0 h1 h2 h3
    obtain ⟨p0, rfl, w0⟩ := read_str h0
    obtain ⟨p1, rfl, g1, w1⟩ := read_int h1
    obtain ⟨p2, rfl, w2⟩ := read_bool h2
    obtain ⟨p3, rfl, w3⟩ := read_bool h3
    exact ⟨⟨⟨p0, p1⟩, p2, p3⟩, rfl, trivial⟩
theorem cs_of {oa : Option Addr} {l : List (Cn × Bool × Bool)} (h : AtF crF 4 W oa l) : CsAt W oa (l.map (·.1)) := fun i hi => by
  have hi' : i < l.length := by simpa using hi
  obtain ⟨b, off, e, hb, hc⟩ := h.get i hi'
  refine ⟨b, off, l[i].2.1, l[i].2.2, e, hb, fun j u hu => ?_⟩
  rw [List.getElem_map] at hu
  exact hc j u hu
set_option maxRecDepth 100000 in
theorem open_vals {v : Value} {d : DataW H} {p : List MemPlace} {r : _root_.Go.Reach} {b0 : Nat} (hv : Value.okWide Tryz.prog W r b0 42 v) (h : DataW.Trod enc Tryz.prog W 0 (fun _ => true) true 42 v d p) (hw : WOk 42 d) : ∃ oa c l, v = .slice oa l.length c ∧ VAt W oa l ∧ (∀ x ∈ l, VB 140737488355328 x) ∧ l.length * Tryz.prog.bytesOf 23 ≤ 140737488355328 := by
  obtain ⟨a, len, c, rfl⟩ := okWide_slice Tryz.underlying42 hv
  obtain ⟨fuel, h⟩ := h
  exact open_enc vE (fun x : V => VB 140737488355328 x) Tryz.underlying42 (by kernel_rfl) read_v rfl h hw
theorem open_slc {t e : TypeId} (hu : Tryz.prog.underlying t = some (.slice e)) {fuel : Nat} {u : Value} {x : DataW H × List MemPlace} (h : DataW.trod enc Tryz.prog W 0 (fun _ => true) true fuel t [u] = some x) : ∃ oa n c, u = .slice oa n c := by
  rcases DataW.trod_slice hu h with ⟨e2, _⟩ | ⟨a, len, cap, elems, rest, m, _, e2, _⟩
  · simp only [List.cons.injEq, and_true] at e2
    exact ⟨_, _, _, e2⟩
  · simp only [List.cons.injEq, and_true] at e2
    exact ⟨_, _, _, e2⟩
set_option maxRecDepth 100000 in
theorem open_table {v : Value} {d : DataW H} {p : List MemPlace} {r : _root_.Go.Reach} {b0 : Nat} (hv : Value.okWide Tryz.prog W r b0 41 v) (h : DataW.Trod enc Tryz.prog W 0 (fun _ => true) true 41 v d p) (hw : WOk 41 d) : ∃ (nm0 : ByteArray) (co : Option Addr) (cc0 : Nat) (xo : Option Addr) (xn xc : Nat) (hd0 : Int) (ro : Option Addr) (rn2 rc2 : Nat) (cols : List Cn), v = .agg (TR.cells ⟨nm0, co, cols.length, cc0, xo, xn, xc, hd0, ro, rn2, rc2⟩) ∧ CsAt W co cols ∧ cols.length * Tryz.prog.bytesOf 44 ≤ 140737488355328 := by
  have hk3 : Tryz.prog.cellsOf 3 = 1 := by kernel_rfl
  have hk9 : Tryz.prog.cellsOf 9 = 1 := by kernel_rfl
  have hk25 : Tryz.prog.cellsOf 37 = 1 := by kernel_rfl
  have hk26 : Tryz.prog.cellsOf 38 = 1 := by kernel_rfl
  have hk27 : Tryz.prog.cellsOf 39 = 1 := by kernel_rfl
  obtain ⟨cs, rfl, hsz⟩ := okWide_struct Tryz.underlying41 hv
  have hC : Tryz.prog.cellsOf 41 = 5 := by kernel_rfl
  rw [hC] at hsz
  obtain ⟨fuel, hf⟩ := h
  obtain ⟨xs, n, _, hx, _, hxl, hfs⟩ := DataW.trod_struct Tryz.underlying41 hf
  obtain ⟨cs⟩ := cs
  match cs, hsz with
  | [b0', b1, b2, b3, b4], _ =>
    have hx5 : xs.length = 5 := hxl
    match xs, hx5 with
    | [x0, x1, x2, x3, x4], _ =>
      have f0 : DataW.trod enc Tryz.prog W 0 (fun _ => true) true n 9 [b0'] = some x0 := by simpa [hk9, Value.cells] using hfs 0 _ rfl
      have f1 : DataW.trod enc Tryz.prog W 0 (fun _ => true) true n 37 [b1] = some x1 := by simpa [hk25, Value.cells] using hfs 1 _ rfl
      have f2 : DataW.trod enc Tryz.prog W 0 (fun _ => true) true n 38 [b2] = some x2 := by simpa [hk26, Value.cells] using hfs 2 _ rfl
      have f3 : DataW.trod enc Tryz.prog W 0 (fun _ => true) true n 3 [b3] = some x3 := by simpa [hk3, Value.cells] using hfs 3 _ rfl
      have f4 : DataW.trod enc Tryz.prog W 0 (fun _ => true) true n 39 [b4] = some x4 := by simpa [hk27, Value.cells] using hfs 4 _ rfl
      have hd : d = .agg [x0.1, x1.1, x2.1, x3.1, x4.1] := by
        have := congrArg Prod.fst hx
        simpa using this
      subst hd
      obtain ⟨p0, rfl, w0⟩ := read_str f0
      obtain ⟨oc, cc, l, rfl, hc, _, hcl⟩ := open_enc crE (fun _ => True) Tryz.underlying37 (by kernel_rfl) read_c rfl f1 (fun q hq => hw q (by
        simp only [DataW.weights, Tryz.underlying41]
        exact DataW.weights_mem_each (j := 1) rfl rfl q hq))
      obtain ⟨xo, xn, xc, rfl⟩ := open_slc Tryz.underlying38 f2
      obtain ⟨p3, rfl, g3, w3⟩ := read_int f3
      obtain ⟨ro, rn2, rc2, rfl⟩ := open_slc Tryz.underlying39 f4
      exact ⟨p0, oc, cc, xo, xn, xc, p3, ro, rn2, rc2, l.map (·.1), by simp, cs_of hc, by simpa using hcl⟩
end
theorem wok_of {H : Type} {ts : List TypeId} {ds : List (DataW H)} (h : (DataW.weightsEach Tryz.prog ts ds).all (· ≤ reachBytes) = true) {j : Nat} {t : TypeId} {d : DataW H} (ht : ts[j]? = some t) (hd : ds[j]? = some d) : WOk t d := fun n hn => by
  have h1 := List.all_eq_true.1 h _ (DataW.weights_mem_each ht hd n hn)
  have h2 := reachBytes_lt
  simp only [decide_eq_true_eq] at h1
  omega
theorem col_bytes : Tryz.prog.bytesOf 44 = 32 := by kernel_rfl
theorem val_bytes : Tryz.prog.bytesOf 23 = 40 := by kernel_rfl
end Go.Proofs.YtbeinfhgfflneaaGreat
end
