/- plan: the walk of PlanLeast. -/
import Derived.Test.YtemhfaknmagebaaPl
import Derived.Test.YtemhfaknmagebaaAw
import Derived.OwnWalk
import Derived.Laws.AppendOwnNone
namespace Go.Proofs.Ytemhfaknmagebaa
open Go.RowKit
set_option linter.unusedSimpArgs false
set_option linter.unusedVariables false
attribute [local go_sem] run_store_complex
def FRel2 (w : World) (stats : List Tb) (s5 s6 : Value) (wr : World) : Prop := ∃ (k : Nat) (a : Int), s6 = .int .i64 k ∧ s5 = .int .i64 a ∧ Hid (stats.length ≤ 5 → a = fewSum (stats.take k)) ∧ k ≤ stats.length ∧ Gr w wr
set_option maxHeartbeats 2000000 in
set_option maxRecDepth 100000 in
theorem few_all (os oq : Option Addr) (cs cq : Nat) (stats : List Tb) (preds : List Pr) (w : World) (hns : stats.length ≤ 9223372036854775807) (hS : SAtW w os stats) :
    Calls Try.prog 11 #[.slice os stats.length cs, .slice oq preds.length cq] w fun e w' => e = .returned (.bool (fewR stats preds)) ∧ Gr w w' := by
  have hR : Hid (fewR stats preds = (decide ((stats.length : Int) ≤ 5) && (decide ((preds.length : Int) ≤ 12) && decide (fewSum stats ≤ 16)))) := hid rfl
  generalize fewR stats preds = R at *
  generalize preds.length = nq at *
  go_enter Try.func11, Try.ntmps11
  go_wp2_with fail
  go_loopw [5, 6] (fun s5 s6 wr => FRel2 w stats s5 s6 wr) (fun _ s6 _ => stats.length - (intOf s6).toNat)
  case atStart => exact ⟨0, 0, rfl, rfl, hid (fun _ => rfl), Nat.zero_le _, Gr.refl _⟩
  case round =>
    obtain ⟨k, a, rfl, rfl, ha, hk, hg⟩ := hrel
    by_cases hlt : k < stats.length
    · rcases hS with hS | ⟨b, off, rfl, hS⟩
      · rw [hS] at hlt; simp at hlt
      obtain ⟨c0, c1, c2, -, h4, -⟩ := hS k hlt
      have c2 := hg.keep c2
      have hb := lt_of_cell c2
      have ht := few_take stats k hlt
      have h5 := few_nonneg (stats.take k)
      have h6 := few_le (stats.take k)
      have h7 : (stats.take k).length = k := by simp; omega
      rw [h7] at h6
      have e2 : ∀ x : Int, (if 100 < x then 100 else x) = min x 100 := fun x => by omega
      have gk : decide ((stats.length : Int) ≤ (k : Int)) = false := by simp; omega
      have gk2 : decide (stats.length ≤ k) = false := by simp; omega
      generalize stats[k].ix.length = n at *
      generalize stats[k].oi = oi at *
      generalize stats[k].ci = ci at *
      obtain ⟨a2, ha2⟩ : ∃ a2, wrap64 (a + min (n : Int) 100) = a2 := ⟨_, rfl⟩
      have hT : Hid (stats.length ≤ 5 → a2 = fewSum (stats.take (k + 1))) := hid (fun h => by
        rw [← ha2, ha.out h, ht]
        unfold wrap64; omega)
      clear ht c0 c1 hS h7 ha h5 h6
      go_wp2
      exact ⟨⟨k + 1, a2, by go_num, by rw [ha2], hT, by omega, hg⟩, by simp [intOf]; omega⟩
    · obtain rfl : k = stats.length := by omega
      have ha2 : Hid (stats.length ≤ 5 → a = fewSum stats) := hid (fun h => by have := ha.out h; rwa [List.take_length] at this)
      clear ha
      generalize fewSum stats = fs at *
      generalize stats.length = ns at *
      clear hS
      have hR1 : Hid (ns ≤ 5 → nq ≤ 12 → R = decide (a ≤ 16)) := hid (fun h1 h2 => by
        rw [hR.out, ha2.out h1, show decide ((ns : Int) ≤ 5) = true by simp; omega, show decide ((nq : Int) ≤ 12) = true by simp; omega]; rfl)
      have hR2 : Hid (ns ≤ 5 → ¬ nq ≤ 12 → R = false) := hid (fun h1 h2 => by
        rw [hR.out, show decide ((nq : Int) ≤ 12) = false by simp; omega]; simp)
      have hR3 : Hid (¬ ns ≤ 5 → R = false) := hid (fun h1 => by
        rw [hR.out, show decide ((ns : Int) ≤ 5) = false by simp; omega]; rfl)
      by_cases h1 : ns ≤ 5
      · have g1 : decide ((ns : Int) ≤ 5) = true := by simp; omega
        by_cases h2 : nq ≤ 12
        · have g2 : decide ((nq : Int) ≤ 12) = true := by simp; omega
          have e := hid (hR1.out h1 h2)
          clear hR hR1 hR2 hR3 h1 h2 ha2
          go_wp2
          go_ret
          exact ⟨by rw [e.out]; rfl, hg⟩
        · have g2 : decide ((nq : Int) ≤ 12) = false := by simp; omega
          have e := hid (hR2.out h1 h2)
          clear hR hR1 hR2 hR3 h1 h2 ha2
          go_wp2
          go_ret
          exact ⟨by rw [e.out]; rfl, hg⟩
      · have g1 : decide ((ns : Int) ≤ 5) = false := by simp; omega
        have e := hid (hR3.out h1)
        clear hR hR1 hR2 hR3 h1 ha2
        go_wp2
        go_ret
        exact ⟨by rw [e.out]; rfl, hg⟩
/-- the cells of a slice of preds -/
def qCells (l : List Pr) : List Value := l.flatMap fun p => [.int .i64 p.t, .int .i64 p.c, .int .i64 p.f, .int .i64 p.g]
theorem qCells_cons (p : Pr) (l : List Pr) : qCells (p :: l) = .int .i64 p.t :: .int .i64 p.c :: .int .i64 p.f :: .int .i64 p.g :: qCells l := rfl
theorem qCells_snoc (l : List Pr) (p : Pr) : qCells (l ++ [p]) = qCells l ++ [.int .i64 p.t, .int .i64 p.c, .int .i64 p.f, .int .i64 p.g] := by simp [qCells]
theorem qCells_len : ∀ l : List Pr, (qCells l).length = l.length * 4
  | [] => rfl
  | x :: r => by rw [qCells_cons]; simp only [List.length_cons]; rw [qCells_len r]; omega
theorem qCells_one (l : List Pr) : ∀ u ∈ qCells l, u.oneCell' = true := by
  intro u hu
  obtain ⟨n, _, hm⟩ := List.mem_flatMap.1 hu
  simp at hm
  rcases hm with rfl | rfl | rfl | rfl <;> rfl
theorem qCells_get : ∀ (l : List Pr) (k : Nat) (h : k < l.length), (qCells l)[k * 4]? = some (.int .i64 l[k].t) ∧ (qCells l)[k * 4 + 1]? = some (.int .i64 l[k].c) ∧ (qCells l)[k * 4 + 2]? = some (.int .i64 l[k].f) ∧ (qCells l)[k * 4 + 3]? = some (.int .i64 l[k].g)
  | [], k, h => by simp at h
  | x :: r, 0, _ => ⟨rfl, rfl, rfl, rfl⟩
  | x :: r, k + 1, h => by
    have := qCells_get r k (by simpa using h)
    rw [qCells_cons, show (k + 1) * 4 = k * 4 + 1 + 1 + 1 + 1 by omega]
    simpa using this
theorem q_info : (Try.prog.info? 33).map (fun i => (i.zero, i.size, i.bytes)) = some (some (.agg #[.int .i64 0, .int .i64 0, .int .i64 0, .int .i64 0]), 4, 32) := by kernel_rfl
theorem qrow_cells {w : World} {b off : Nat} {l : List Pr} (h : QRow w b off l) : ∀ j u, (qCells l)[j]? = some u → w.cell? ((⟨b, off, none⟩ : Addr).add j) = some u := by
  intro j u hu
  have hadd : (⟨b, off, none⟩ : Addr).add j = ⟨b, off + j, none⟩ := by unfold Addr.add; split <;> simp_all
  rw [hadd]
  have hj : j < (qCells l).length := (List.getElem?_eq_some_iff.1 hu).1
  rw [qCells_len] at hj
  have hk : j / 4 < l.length := by omega
  obtain ⟨g0, g1, g2, g3⟩ := qCells_get l (j / 4) hk
  obtain ⟨r0, r1, r2, r3⟩ := h (j / 4) hk
  have hm : j % 4 = 0 ∨ j % 4 = 1 ∨ j % 4 = 2 ∨ j % 4 = 3 := by omega
  rcases hm with e | e | e | e
  · rw [show j = j / 4 * 4 by omega] at hu ⊢
    rw [g0] at hu; cases hu; exact r0
  · rw [show j = j / 4 * 4 + 1 by omega] at hu ⊢
    rw [g1] at hu; cases hu; exact r1
  · rw [show j = j / 4 * 4 + 2 by omega] at hu ⊢
    rw [g2] at hu; cases hu; exact r2
  · rw [show j = j / 4 * 4 + 3 by omega] at hu ⊢
    rw [g3] at hu; cases hu; exact r3
theorem own_preds {w : World} {base : Nat} {v : Value} {l : List Pr} (h : w.ownsRow base 33 4 v l.length (qCells l)) : ∃ oa c, v = .slice oa l.length c ∧ QAt w oa l := by
  rcases h.2 with ⟨rfl, h0⟩ | ⟨g, cap, cur, rfl, hb, hg, _⟩
  · exact ⟨none, 0, by rw [h0], Or.inl (List.eq_nil_of_length_eq_zero h0)⟩
  · refine ⟨_, _, rfl, Or.inr ⟨g, 0, rfl, fun k hk => ?_⟩⟩
    obtain ⟨c0, c1, c2, c3⟩ := qCells_get l k hk
    have hadd : ∀ j, (⟨g, 0, none⟩ : Addr).add j = ⟨g, j, none⟩ := fun j => by unfold Addr.add; split <;> simp_all
    have d0 := h.cells (g := g) rfl _ _ c0
    have d1 := h.cells (g := g) rfl _ _ c1
    have d2 := h.cells (g := g) rfl _ _ c2
    have d3 := h.cells (g := g) rfl _ _ c3
    rw [hadd] at d0 d1 d2 d3
    rw [Nat.zero_add]
    exact ⟨d0, d1, d2, d3⟩
theorem four_cells {w : World} {g : Nat} {a b c d : Value} (h0 : w.cell? ⟨g, 0, none⟩ = some a) (h1 : w.cell? ⟨g, 1, none⟩ = some b) (h2 : w.cell? ⟨g, 2, none⟩ = some c) (h3 : w.cell? ⟨g, 3, none⟩ = some d) : ∀ j u, [a, b, c, d][j]? = some u → w.cell? ((⟨g, 0, none⟩ : Addr).add j) = some u := by
  intro j u hu
  have hadd : ∀ j, (⟨g, 0, none⟩ : Addr).add j = ⟨g, j, none⟩ := fun j => by unfold Addr.add; split <;> simp_all
  rw [hadd]
  match j, hu with
  | 0, hu => simp at hu; subst hu; exact h0
  | 1, hu => simp at hu; subst hu; exact h1
  | 2, hu => simp at hu; subst hu; exact h2
  | 3, hu => simp at hu; subst hu; exact h3
theorem four_one : ∀ u ∈ [Value.int .i64 0, .int .i64 0, .int .i64 (-1), .int .i64 0], u.oneCell' = true := by
  intro u hu
  simp at hu
  rcases hu with rfl | rfl | rfl <;> rfl
theorem append_none {P : Program} {w : World} {ops : Array Oper} {rest : List Oper} {o : Oper} {a : Act} {Q : Exit → Act → World → Prop} (hgd : o.guard = none) (s x : Operand) (t : TypeId)
    (ho : o.op = .call { callee := .builtin .append, args := #[s, x], argTypes := #[t, t] })
    (base : Nat) (e : TypeId) (i : TypeInfo) (size : Nat) (ht : P.underlying t = some (.slice e)) (hi : P.info? e = some i)
    (v : Value) (n : Nat) (xs : List Value) (hs : a.eval s = v) (hown : w.ownsRow base e size v n xs) (hx : a.eval x = .slice none 0 0)
    (h : ∀ v' w', Hid (v' = v) → Hid (w' = w) → wpList P ops Q rest (a.put o.dst v') w') : wpList P ops Q (o :: rest) a w :=
  wpList_append_own_none hgd s x t ho base e i size ht hi v n xs hs hown hx (h v w rfl rfl)
def Yes (w : World) (e : Ending) (w' : World) : Prop := e = .returned (.bool true) ∧ Gr w w'
section
variable {os oq ol : Option Addr} {cs cq cl : Nat} {stats : List Tb} {preds : List Pr} {l : List (Int × Int)}
set_option maxHeartbeats 4000000 in
set_option maxRecDepth 100000 in
theorem least_many (w : World) (hns : stats.length ≤ 9223372036854775807) (hS : SAtW w os stats) (hf : fewR stats preds = false) :
    Calls Try.prog 4 #[.slice os stats.length cs, .slice oq preds.length cq, .slice ol l.length cl] w (Yes w) := by
  have F := few_all os oq cs cq stats preds w hns hS
  rw [hf] at F
  clear hf hS
  go_enter Try.func4, Try.ntmps4
  go_wp2_with fail
  refine F.mono ?_
  rintro e w1 ⟨rfl, h1⟩
  go_wp2_with fail
  refine (awake_any _).mono ?_
  rintro e w2 ⟨rfl, h2⟩
  go_wp2
  go_ret
  exact ⟨rfl, h1.trans h2⟩
set_option maxHeartbeats 4000000 in
set_option maxRecDepth 100000 in
theorem least_out (w : World) (hns : stats.length ≤ 9223372036854775807) (hS : SAtW w os stats) (hf : fewR stats preds = true) (ho : stats.length < 1 ∨ 4 < stats.length) :
    Calls Try.prog 4 #[.slice os stats.length cs, .slice oq preds.length cq, .slice ol l.length cl] w (Yes w) := by
  have F := few_all os oq cs cq stats preds w hns hS
  have B := fun W => best_out os oq stats.length preds.length cs cq W ho
  rw [hf] at F
  simp only [fewR, Bool.and_eq_true, decide_eq_true_eq] at hf
  have hcase : stats.length = 0 ∨ stats.length = 5 := by omega
  clear hf hS hns ho
  generalize stats.length = n at *
  rcases hcase with rfl | rfl
  · skip
    go_enter Try.func4, Try.ntmps4
    go_wp2_with fail
    with_reducible refine F.mono ?_
    rintro e w1 ⟨rfl, h1⟩
    go_wp2_with fail
    with_reducible refine (B _).mono ?_
    rintro e w2 ⟨rfl, h2⟩
    go_wp2_with fail
    refine (awake_any _).mono ?_
    rintro e w3 ⟨rfl, h3⟩
    go_wp2
    go_ret
    exact ⟨rfl, (h1.trans h2).trans h3⟩
  · skip
    go_enter Try.func4, Try.ntmps4
    go_wp2_with fail
    with_reducible refine F.mono ?_
    rintro e w1 ⟨rfl, h1⟩
    go_wp2_with fail
    with_reducible refine (B _).mono ?_
    rintro e w2 ⟨rfl, h2⟩
    go_wp2_with fail
    refine (awake_any _).mono ?_
    rintro e w3 ⟨rfl, h3⟩
    go_wp2
    go_ret
    exact ⟨rfl, (h1.trans h2).trans h3⟩
set_option maxHeartbeats 4000000 in
set_option maxRecDepth 100000 in
theorem least_in (w : World) (hns : stats.length ≤ 9223372036854775807) (hll : l.length ≤ 9223372036854775807) (hS : SAtW w os stats) (hQ : QAt w oq preds) (hqn : oq = none → cq = 0) (hP : PAt w ol l) (hf : fewR stats preds = true) (h1 : 1 ≤ stats.length) (h4 : stats.length ≤ 4) :
    Calls Try.prog 4 #[.slice os stats.length cs, .slice oq preds.length cq, .slice ol l.length cl] w (Yes w) := by
  obtain ⟨i0, hi, hz0, hz1, hz2⟩ := info_parts q_info
  have F := few_all os oq cs cq stats preds w hns hS
  have hSf := hS.few hf
  rw [hf] at F
  have hq : preds.length ≤ 12 := by
    simp only [fewR, Bool.and_eq_true, decide_eq_true_eq] at hf
    omega
  have hsp := best_spec (ah := aheadR) (stats := stats) (preds := preds) h1
  have hsp2 := best_spec (ah := aheadR) (stats := stats) (preds := preds ++ [q0]) h1
  have sm1 := best_sm (stats := stats) (preds := preds) h1
  have sm2 := best_sm (stats := stats) (preds := preds ++ [q0]) h1
  have hle := best_least (e := [q0]) h1 hsp.2.1 hsp.1
  have HB : ∀ W, Gr w W → Calls Try.prog 5 #[.slice os stats.length cs, .slice oq preds.length cq] W fun e w' => ∃ ob cb, e = .returned (.tuple #[.slice ob stats.length cb, .complex .f64 (Fl.fw (bestR aheadR stats preds).a) (Fl.fw (bestR aheadR stats preds).b), .bool true]) ∧ PAt w' ob (bestR aheadR stats preds).l ∧ Gr W w' := fun W hg =>
    (best_any os oq cs cq stats preds W h1 h4 (by omega) (hSf.keep hg) (hQ.keep hg)).mono fun e w' ⟨ob, cb, h, hp, hg⟩ => ⟨ob, cb, by rw [h, hsp.1], hp, hg⟩
  have HB2 : ∀ W oq2 cq2, Gr w W → QAt W oq2 (preds ++ [q0]) → Calls Try.prog 5 #[.slice os stats.length cs, .slice oq2 (preds.length + 1) cq2] W fun e w' => ∃ ob cb, e = .returned (.tuple #[.slice ob stats.length cb, .complex .f64 (Fl.fw (bestR aheadR stats (preds ++ [q0])).a) (Fl.fw (bestR aheadR stats (preds ++ [q0])).b), .bool true]) ∧ Gr W w' := fun W oq2 cq2 hg hq2 => by
    have := best_any os oq2 cs cq2 stats (preds ++ [q0]) W h1 h4 (by simp; omega) (hSf.keep hg) hq2
    rw [show (preds ++ [q0]).length = preds.length + 1 by simp] at this
    exact this.mono fun e w' ⟨ob, cb, h, hp, hg⟩ => ⟨ob, cb, by rw [h, hsp2.1], hg⟩
  have HC : ∀ W ob cb, Gr w W → PAt W ob (bestR aheadR stats preds).l → Calls Try.prog 9 #[.slice os stats.length cs, .slice oq preds.length cq, .slice ob stats.length cb] W fun e w' => e = .returned (.tuple #[.complex .f64 (Fl.fw (bestR aheadR stats preds).a) (Fl.fw (bestR aheadR stats preds).b), .int .i64 (bestR aheadR stats preds).rows, .bool true]) ∧ Gr W w' := fun W ob cb hg hp => by
    have := cost_any os oq ob cs cq cb stats preds (bestR aheadR stats preds).l W (by omega) (by omega) (by rw [hsp.1]; omega) (hSf.keep hg) (hQ.keep hg) hp
    rw [hsp.1, show costR stats preds (bestR aheadR stats preds).l = some (bestR aheadR stats preds) by unfold costR; rw [if_pos hsp.1]; exact hsp.2.1] at this
    exact this
  have HL := fun W (hg : Gr w W) => cost_any os oq ol cs cq cl stats preds l W (by omega) (by omega) hll (hSf.keep hg) (hQ.keep hg) (hP.keep hg)
  have hE : ∃ EA EB er ok, costV (costR stats preds l) = .tuple #[.complex .f64 EA EB, .int .i64 er, .bool ok] ∧ Hid (ok = true → ∀ W, Calls Try.prog 8 #[.complex .f64 EA EB, .complex .f64 (Fl.fw (bestR aheadR stats preds).a) (Fl.fw (bestR aheadR stats preds).b)] W fun e w' => e = .returned (.bool false) ∧ w' = W) := by
    cases hc : costR stats preds l with
    | none => exact ⟨_, _, _, _, rfl, hid (fun h => by cases h)⟩
    | some s =>
      refine ⟨_, _, _, _, rfl, hid (fun _ W => ?_)⟩
      unfold costR at hc
      split at hc
      · rename_i hl
        have hs := hsp.2.2 l s hc hl
        unfold lessS at hs
        have sm := run0_sm hc
        have := less_any s.a s.b (bestR aheadR stats preds).a (bestR aheadR stats preds).b W sm.1 sm.2 sm1.1 sm1.2
        rw [hs] at this
        exact this.mono fun e w' h => ⟨h.1, h.2.symm⟩
      · cases hc
  obtain ⟨EA, EB, er, ok, hV, HE⟩ := hE
  rw [hV] at HL
  have L2 := fun W => less_any (bestR aheadR stats preds).a (bestR aheadR stats preds).b (bestR aheadR stats (preds ++ [q0])).a (bestR aheadR stats (preds ++ [q0])).b W sm1.1 sm1.2 sm2.1 sm2.2
  rw [hle] at L2
  have o1 := ord_eq sm1.1
  have o2 := ord_eq sm1.2
  generalize bestR aheadR stats (preds ++ [q0]) = B2 at *
  generalize bestR aheadR stats preds = B at *
  obtain ⟨ZA, hZA⟩ : ∃ v, Fl.fw B.a = v := ⟨_, rfl⟩
  obtain ⟨ZB, hZB⟩ : ∃ v, Fl.fw B.b = v := ⟨_, rfl⟩
  obtain ⟨YA, hYA⟩ : ∃ v, Fl.fw B2.a = v := ⟨_, rfl⟩
  obtain ⟨YB, hYB⟩ : ∃ v, Fl.fw B2.b = v := ⟨_, rfl⟩
  rw [hZA, hZB] at HB HC L2 HE
  rw [hYA, hYB] at L2 HB2
  rw [hZA] at o1
  rw [hZB] at o2
  have hQc : Hid (oq = none ∧ preds = [] ∨ ∃ ad, oq = some ad ∧ ∀ W, Gr w W → ∀ j u, (qCells preds)[j]? = some u → W.cell? (ad.add j) = some u) := hid (by
    rcases hQ with h | ⟨b, off, h, hr⟩
    · cases oq with
      | none => exact .inl ⟨rfl, h⟩
      | some ad => exact .inr ⟨ad, rfl, fun W hg j u hu => by rw [h] at hu; simp [qCells] at hu⟩
    · exact .inr ⟨_, h, fun W hg => qrow_cells (hr.keep hg)⟩)
  have hQn := hid hqn
  have GHB := hid HB
  have GHB2 := hid HB2
  have GHC := hid HC
  have GHL := hid HL
  clear HB HB2 HC HL hsp hsp2 sm1 sm2 hle hS hSf hQ hqn hP hV hZA hZB hYA hYB hf
  go_enter Try.func4, Try.ntmps4
  go_wp2_with fail
  refine F.mono ?_
  rintro e w1 ⟨rfl, h1'⟩
  go_wp2_with fail
  refine (GHB.out _ h1').mono ?_
  rintro e w2 ⟨ob, cb, rfl, hp, hg2⟩
  have G2 := h1'.trans hg2
  go_wp2_with fail
  refine (GHC.out _ _ _ G2 hp).mono ?_
  rintro e w3 ⟨rfl, hg3⟩
  have G3 := G2.trans hg3
  go_wp2_with fail
  refine (GHL.out _ G3).mono ?_
  rintro e w4 ⟨rfl, hg4⟩
  have G4 := G3.trans hg4
  clear h1' hg2 hg3 hg4 G2 G3 hp F GHB GHC GHL
  go_upto_region 8 with (fail)
  go_cut [74] from 60 to 74 (fun s wx => s = .bool false ∧ w4 = wx)
  case first =>
    cases ok
    · go_wp2
      go_meet
      exact ⟨rfl, rfl⟩
    · have HE2 := HE.out rfl
      go_wp2_with fail
      refine (HE2 _).mono ?_
      rintro e w' ⟨rfl, rfl⟩
      go_wp2
      go_meet
      exact ⟨rfl, rfl⟩
  case rest =>
    obtain ⟨rfl, rfl⟩ := hcut
    clear HE o1 o2
    rcases hQc.out with ⟨hq0, hp0⟩ | ⟨ad, rfl, hcl⟩
    · have hs0 : Hid (Value.slice oq preds.length cq = .slice none 0 0) := hid (by rw [hQn.out hq0, hq0, hp0]; rfl)
      have hp1 := hid hp0
      clear hp0 hQc hQn hq0
      go_wp2_with (at_builtin; refine append_none rfl _ _ 34 rfl w4.heap.size 33 i0 4 Try.underlying34 hi _ _ _ rfl (World.ownsRow_lit w4 #[] 0 (Nat.le_refl _) (by decide) rfl) hs0.out ?_)
      intro v6 w6 hv6 hw6
      have HO : Hid (w6.ownsRow w4.heap.size 33 4 v6 preds.length (qCells preds)) := hid (by
        rw [hp1.out, hv6.out, hw6.out]
        exact World.ownsRow_lit w4 #[] 0 (Nat.le_refl _) (by decide) rfl)
      have G6 : Gr w4 w6 := by rw [hw6.out]; exact (Gr.refl w4).alloc _
      clear hv6 hw6
      go_wp2_with (at_builtin; refine wpList_append_own _ rfl _ _ 34 rfl w4.heap.size 33 i0 (.agg #[.int .i64 0, .int .i64 0, .int .i64 0, .int .i64 0]) 4 32 Try.underlying34 hi hz0 hz1 hz2 rfl (by decide) _ _ _ rfl (HO.out.alloc _) ⟨w6.heap.size, 0, none⟩ 1 1 [.int .i64 0, .int .i64 0, .int .i64 (-1), .int .i64 0] rfl rfl ?d11 ?d12 ?d13 ?d14 ?d15 ?_)
      case d11 => exact four_cells (by go_simp) (by go_simp) (by go_simp) (by go_simp)
      case d12 => exact four_one
      case d13 => unfold maxLen; omega
      case d14 => omega
      case d15 => have := G6.size; simp; omega
      intro v7 w7 hown7 hg7 _
      have hown7 : w7.ownsRow w4.heap.size 33 4 v7 (preds ++ [q0]).length (qCells (preds ++ [q0])) := by rw [qCells_snoc]; simpa [q0] using hown7
      have G7 : Gr w4 w7 := (G6.alloc _).grown hg7 (fun b hb => (World.ownsRow.lt HO.out b hb).1)
      obtain ⟨oa7, c7, rfl, hq7⟩ := own_preds hown7
      rw [show (preds ++ [q0]).length = preds.length + 1 by simp] at *
      have HQ7 := hid hq7
      clear hown7 hg7 hq7 HO
      go_wp2_with fail
      refine (GHB2.out _ _ _ (G4.trans G7) HQ7.out).mono ?_
      rintro e w8 ⟨ob2, cb2, rfl, hg8⟩
      have G8 := (G4.trans G7).trans hg8
      clear hg8 G7
      go_wp2_with fail
      refine (L2 _).mono ?_
      rintro e w' ⟨rfl, rfl⟩
      go_wp2_with fail
      refine (awake_any _).mono ?_
      rintro e w9 ⟨rfl, hg9⟩
      go_wp2
      go_ret
      exact ⟨rfl, G8.trans hg9⟩
    · go_wp2_with (at_builtin; refine wpList_append_own _ rfl _ _ 34 rfl w4.heap.size 33 i0 (.agg #[.int .i64 0, .int .i64 0, .int .i64 0, .int .i64 0]) 4 32 Try.underlying34 hi hz0 hz1 hz2 rfl (by decide) _ _ _ rfl (World.ownsRow_lit w4 #[] 0 (Nat.le_refl _) (by decide) rfl) ad preds.length cq (qCells preds) rfl (qCells_len preds) ?c1 ?c2 ?c3 ?c4 ?c5 ?_)
      case c1 => exact hcl _ (G4.alloc _)
      case c2 => exact qCells_one preds
      case c3 => unfold maxLen; omega
      case c4 => omega
      case c5 => simp
      intro v6 w6 hown6 hg6 _
      have HO : Hid (w6.ownsRow w4.heap.size 33 4 v6 preds.length (qCells preds)) := hid (by simpa using hown6)
      have G6 : Gr w4 w6 := ((Gr.refl w4).alloc _).grown hg6 (fun b hb => by simp [Value.ownBlock] at hb; omega)
      clear hown6 hg6
      go_wp2_with (at_builtin; refine wpList_append_own _ rfl _ _ 34 rfl w4.heap.size 33 i0 (.agg #[.int .i64 0, .int .i64 0, .int .i64 0, .int .i64 0]) 4 32 Try.underlying34 hi hz0 hz1 hz2 rfl (by decide) _ _ _ rfl (HO.out.alloc _) ⟨w6.heap.size, 0, none⟩ 1 1 [.int .i64 0, .int .i64 0, .int .i64 (-1), .int .i64 0] rfl rfl ?d21 ?d22 ?d23 ?d24 ?d25 ?_)
      case d21 => exact four_cells (by go_simp) (by go_simp) (by go_simp) (by go_simp)
      case d22 => exact four_one
      case d23 => unfold maxLen; omega
      case d24 => omega
      case d25 => have := G6.size; simp; omega
      intro v7 w7 hown7 hg7 _
      have hown7 : w7.ownsRow w4.heap.size 33 4 v7 (preds ++ [q0]).length (qCells (preds ++ [q0])) := by rw [qCells_snoc]; simpa [q0] using hown7
      have G7 : Gr w4 w7 := (G6.alloc _).grown hg7 (fun b hb => (World.ownsRow.lt HO.out b hb).1)
      obtain ⟨oa7, c7, rfl, hq7⟩ := own_preds hown7
      rw [show (preds ++ [q0]).length = preds.length + 1 by simp] at *
      have HQ7 := hid hq7
      clear hown7 hg7 hq7 HO
      go_wp2_with fail
      refine (GHB2.out _ _ _ (G4.trans G7) HQ7.out).mono ?_
      rintro e w8 ⟨ob2, cb2, rfl, hg8⟩
      have G8 := (G4.trans G7).trans hg8
      clear hg8 G7
      go_wp2_with fail
      refine (L2 _).mono ?_
      rintro e w' ⟨rfl, rfl⟩
      go_wp2_with fail
      refine (awake_any _).mono ?_
      rintro e w9 ⟨rfl, hg9⟩
      go_wp2
      go_ret
      exact ⟨rfl, G8.trans hg9⟩
theorem least_walk (w : World) (hns : stats.length ≤ 9223372036854775807) (hll : l.length ≤ 9223372036854775807) (hS : SAtW w os stats) (hQ : QAt w oq preds) (hqn : oq = none → cq = 0) (hP : PAt w ol l) :
    Calls Try.prog 4 #[.slice os stats.length cs, .slice oq preds.length cq, .slice ol l.length cl] w (Yes w) := by
  cases hf : fewR stats preds with
  | false => exact least_many w hns hS hf
  | true =>
    by_cases ho : stats.length < 1 ∨ 4 < stats.length
    · exact least_out w hns hS hf ho
    · exact least_in w hns hll hS hQ hqn hP hf (by omega) (by omega)
end
end Go.Proofs.Ytemhfaknmagebaa
