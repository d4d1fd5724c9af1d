/- plan: state.with, done: the new plan's memory is its own. -/
import Derived.Test.YtemhfaknmagebaaH5
import Derived.Test.YtemhfaknmagebaaRa
namespace Go.Proofs.Ytemhfaknmagebaa
open Go.RowKit
set_option linter.unusedSimpArgs false
set_option linter.unusedVariables false
attribute [local go_sem] Rg.once_normal Rg.once_exit Rg.once_ret Rg.once_panic Rg.once_goto Rg.leads_value Rg.leads_skip Rg.leads_enter Rg.brings_value Rg.brings_skip Rg.brings_enter Rg.bringsG_value Rg.bringsG_enter
attribute [local go_sem] run_store_complex
section
variable {P : Program} {ops : Array Oper} {W : World} {F : List Nat} {kj : Nat} {D : List Nat} {Gs : List (Nat × (Value → World → Prop))} {v : Nat → Value} {c : Value} {i : Nat} {o : Oper} {a : Act}
theorem sa_det (hF : F.contains i = false) (hw : Region.wanted o (yielded ops a.tmps) = true) (h : ∀ w, Rg.Up W w → Rg.Brings P w c ((execOp a.eval o).run P w)) : Rg.StepOa P ops W F kj D Gs v (some c) i o a := by
  unfold Rg.StepOa
  simp only [hF, Bool.false_eq_true, if_false]
  exact Or.inl ⟨hw, h⟩
theorem sa_flt (hF : F.contains i = true) (h : Yields P ops o c a) : Rg.StepOa P ops W F kj D Gs v (some c) i o a := by
  unfold Rg.StepOa
  simp only [hF, if_true]
  exact h
theorem sa_free (hF : F.contains i = false) (hw : Region.wanted o (yielded ops a.tmps) = true) (hk : (i == kj) = false) (h : ∀ w, Rg.Up W w → Rg.BringsG P w (Rg.Gat Gs i) false ((execOp a.eval o).run P w)) : Rg.StepOa P ops W F kj D Gs v none i o a := by
  unfold Rg.StepOa
  simp only [beq_eq_false_iff_ne, ne_eq] at hk
  simp only [if_neg hk]
  exact ⟨hF, hw, h⟩
theorem sa_app (hF : F.contains i = false) (hw : Region.wanted o (yielded ops a.tmps) = true) (hk : (i == kj) = true) (h : ∀ w, Rg.Up W w → Rg.facts Gs v w D → Rg.BringsA P W w (Rg.Gat Gs i) ((execOp a.eval o).run P w)) : Rg.StepOa P ops W F kj D Gs v none i o a := by
  unfold Rg.StepOa
  simp only [beq_iff_eq] at hk
  simp only [if_pos hk]
  exact ⟨hF, hw, h⟩
end
/-- what the region's own values are good for -/
def G2 (B : Nat) (l : List (Int × Int)) (u : Value) (w : World) : Prop := w.ownsRow B 39 2 u l.length (pCells l)
def G4 (p : Int × Int) (u : Value) (w : World) : Prop := ∃ g, u = .slice (some ⟨g, 0, none⟩) 1 1 ∧ w.cell? ⟨g, 0, none⟩ = some (.int .i64 p.1) ∧ w.cell? ⟨g, 1, none⟩ = some (.int .i64 p.2)
def G5 (B : Nat) (l : List (Int × Int)) (p : Int × Int) (u : Value) (w : World) : Prop := w.ownsRow B 39 2 u (l.length + 1) (pCells (l ++ [p]))
theorem ownB_keep {w w' : World} {base n : Nat} {v : Value} {zs : List Value} (h : w.ownsRow base 39 2 v n zs) (hg : Gr w w') : w'.ownsRow base 39 2 v n zs := own_keep h hg
theorem g_keep (B : Nat) (l : List (Int × Int)) (p : Int × Int) : ∀ k u w w', Rg.Gat [(2, G2 B l), (4, G4 p), (5, G5 B l p)] k u w → Rg.Up w w' → Rg.Gat [(2, G2 B l), (4, G4 p), (5, G5 B l p)] k u w' := by
  intro k u w w' h hg
  simp only [Rg.Gat] at h ⊢
  split
  · rename_i e; rw [if_pos e] at h; exact own_keep h hg
  · rename_i e
    rw [if_neg e] at h
    split
    · rename_i e2
      rw [if_pos e2] at h
      obtain ⟨g, e3, c0, c1⟩ := h
      exact ⟨g, e3, Gr.keep hg c0, Gr.keep hg c1⟩
    · rename_i e2
      rw [if_neg e2] at h
      split
      · rename_i e3; rw [if_pos e3] at h; exact own_keep h hg
      · trivial
/-- the append, done: what stood ahead of the region stands -/
theorem app_step {W w : World} {l : List (Int × Int)} {p : Int × Int} {u2 u4 : Value} (hS : Gr W w) (hl : l.length ≤ 1000000) (h2 : G2 W.heap.size l u2 w) (h4 : G4 p u4 w) (ty : TypeId) :
    ∃ v' w', (Builtin.append_ #[27, 27] ty #[u2, u4]).run Try.prog w = .ok v' w' ∧ G5 W.heap.size l p v' w' ∧ Gr W w' ∧ w.heap.size ≤ w'.heap.size := by
  obtain ⟨i0, hi, hz0, hz1, hz2⟩ := info_parts p_info
  obtain ⟨g, rfl, c0, c1⟩ := h4
  have hadd : ∀ j, (⟨g, 0, none⟩ : Addr).add j = ⟨g, j, none⟩ := fun j => by unfold Addr.add; split <;> simp_all
  obtain ⟨v', w', hr, ho, hg, _⟩ := run_append_own (P := Try.prog) w W.heap.size 27 ty 39 i0 (.agg #[.int .i64 0, .int .i64 0]) 2 16 Try.underlying27 hi hz0 hz1 hz2 rfl (by decide) u2 l.length (pCells l) h2 ⟨g, 0, none⟩ 1 1 [.int .i64 p.1, .int .i64 p.2] rfl
    (fun j u hu => by
      rw [hadd]
      match j, hu with
      | 0, hu => simp at hu; subst hu; exact c0
      | 1, hu => simp at hu; subst hu; exact c1)
    (fun u hu => by simp at hu; rcases hu with rfl | rfl <;> rfl) (by unfold maxLen; omega) (by omega) hS.size
  refine ⟨v', w', hr, ?_, hS.grown hg (fun k hk => (World.ownsRow.lt h2 k hk).1), hg.size⟩
  unfold G5
  rw [pCells_snoc]
  exact ho
/-- what a row of one's own is -/
theorem own_form {w : World} {base : Nat} {v : Value} {l : List (Int × Int)} (h : w.ownsRow base 39 2 v l.length (pCells l)) : ∃ oa c, v = .slice oa l.length c ∧ l.length ≤ c ∧ PAt w oa l ∧ ∀ g o q, oa = some ⟨g, o, q⟩ → base ≤ g ∧ ∃ cur, w.heap[g]? = some (.cells cur 39 (0, 0)) := by
  rcases h.2 with ⟨rfl, h0⟩ | ⟨g, cap, cur, rfl, hb, hg, hn, _⟩
  · exact ⟨none, 0, by rw [h0], by omega, Or.inl (List.eq_nil_of_length_eq_zero h0), by intro _ _ _ e; cases e⟩
  · refine ⟨_, _, rfl, hn, Or.inr ⟨g, 0, rfl, (Array.getElem?_eq_some_iff.1 hg).1, fun k hk => ?_⟩, by intro _ _ _ e; cases e; exact ⟨hb, cur, hg⟩⟩
    obtain ⟨c0, c1⟩ := pCells_get l k hk
    have hadd : ∀ j, (⟨g, 0, none⟩ : Addr).add j = ⟨g, j, none⟩ := fun j => by unfold Addr.add; split <;> simp_all
    have d0 := h.cells (g := g) rfl _ _ c0
    have d1 := h.cells (g := g) rfl _ _ c1
    rw [hadd] at d0 d1
    rw [Nat.zero_add]
    exact ⟨d0, d1⟩
/-- what with hands back -/
def WithP (w : World) (y : St) (e : Ending) (w' : World) : Prop := ∃ oa c, e = .returned (.tuple #[y.val oa c, .bool true]) ∧ y.l.length ≤ c ∧ PAt w' oa y.l ∧ (∀ g o q, oa = some ⟨g, o, q⟩ → w.heap.size ≤ g ∧ ∃ cur, w'.heap[g]? = some (.cells cur 39 (0, 0))) ∧ Gr w w'
theorem own_mono {w : World} {base base' : Nat} {e : TypeId} {size : Nat} {v : Value} {n : Nat} {xs : List Value} (h : w.ownsRow base e size v n xs) (hb : base' ≤ base) : w.ownsRow base' e size v n xs := by
  refine ⟨h.1, ?_⟩
  rcases h.2 with h1 | ⟨g, cap, cur, e1, h2, r⟩
  · exact .inl h1
  · exact .inr ⟨g, cap, cur, e1, Nat.le_trans hb h2, r⟩
theorem sa_append {P : Program} {ops : Array Oper} {W : World} {F : List Nat} {kj : Nat} {D : List Nat} {Gs : List (Nat × (Value → World → Prop))} {v : Nat → Value} {i : Nat} {o : Oper} {a : Act} (s x : Operand) (u2 u4 : Value) (ho : o.op = .call { callee := .builtin .append, args := #[s, x], argTypes := #[27, 27] }) (hs : a.eval s = u2) (hx : a.eval x = u4)
    (hF : F.contains i = false) (hw : Region.wanted o (yielded ops a.tmps) = true) (hk : (i == kj) = true) (h : ∀ w, Rg.Up W w → Rg.facts Gs v w D → ∃ v' w', (Builtin.append_ #[27, 27] o.type #[u2, u4]).run P w = .ok v' w' ∧ Rg.Gat Gs i v' w' ∧ Gr W w' ∧ w.heap.size ≤ w'.heap.size) : Rg.StepOa P ops W F kj D Gs v none i o a := by
  refine sa_app hF hw hk fun w hS hf => ?_
  obtain ⟨v', w', hr, h5, hg, hz⟩ := h w hS hf
  unfold execOp
  simp only [ho, resolve, invoke, builtin, Sem.run_bind, Sem.run_pure, Result.andThen_ok, List.map_toArray, List.map_cons, List.map_nil, hs, hx, hr]
  exact ⟨h5, hg, hz⟩
/-- the same, with its parts -/
def WithV (w : World) (l : List (Int × Int)) (la lb : Nat) (tt : Int) (e : Ending) (w' : World) : Prop := ∃ oa c, e = .returned (.tuple #[.agg #[.slice oa l.length c, .complex .f64 la lb, .int .i64 tt], .bool true]) ∧ l.length ≤ c ∧ PAt w' oa l ∧ (∀ g o q, oa = some ⟨g, o, q⟩ → w.heap.size ≤ g ∧ ∃ cur, w'.heap[g]? = some (.cells cur 39 (0, 0))) ∧ Gr w w'
theorem grown_set (w : World) (a : Addr) (u : Value) : w.grownBy (w.setCell a u) (some a.block) :=
  ⟨rfl, rfl, rfl, by simp, fun k _ hk => heap_setCell_other w a k u (fun e => hk (by rw [e]))⟩
theorem own_set {w : World} {base n : Nat} {v : Value} {zs : List Value} {a : Addr} (h : w.ownsRow base 39 2 v n zs) (ha : a.block < base) (u : Value) : (w.setCell a u).ownsRow base 39 2 v n zs :=
  h.kept (grown_set w a u) (Or.inr (fun e => by have := (World.ownsRow.lt h _ e).1; omega))
set_option maxHeartbeats 4000000 in
set_option maxRecDepth 100000 in
theorem with_scan (x : St) (oa os oq : Option Addr) (c cs cq ns nq : Nat) (k : Nat) (b off : Nat) (t : Tb) (w : World) (hl : x.l.length ≤ 1000000) (hns : ns ≤ 9223372036854775807) (hnq : nq ≤ 9223372036854775807) (hp : PAt w oa x.l)
    (hk : k < ns) (hn : hasP k x.l = false) (hxa : x.a ≤ 9007199254740992) (hxb : x.b ≤ 9007199254740992) (hxr : x.rows ≤ 9223372036854775807)
    (t0 : w.cell? ⟨b, off + k * 3, none⟩ = some (.int .i64 t.rows)) (t1 : w.cell? ⟨b, off + k * 3 + 1, none⟩ = some (.int .i64 t.pages)) (t2 : w.cell? ⟨b, off + k * 3 + 2, none⟩ = some (.slice t.oi t.ix.length t.ci)) (htr : t.rows ≤ 9223372036854775807) :
    Calls Try.prog 18 #[x.val oa c, .slice (some ⟨b, off, none⟩) ns cs, .slice oq nq cq, .agg #[.int .i64 k, .int .i64 (-1)]] w (WithP w (addR x (k, -1) (bnd t.pages) (bnd t.rows) t.rows)) := by
  show Calls _ _ _ _ (WithV w (x.l ++ [((k : Int), -1)]) (Fl.fw (min (x.a + x.rows.toNat * bnd t.pages) 9007199254740992)) (Fl.fw (min (x.b + x.rows.toNat * bnd t.rows) 9007199254740992)) (timesI x.rows t.rows))
  have H0 := fun W hg => has_any oa c x.l (Fl.fw x.a) (Fl.fw x.b) x.rows k W (by omega) (hp.keep hg)
  have HL := fun W => loop_any x.a x.b (bnd t.pages) (bnd t.rows) x.rows W hxa hxb (Nat.le_trans (bnd_le _) (by decide)) (Nat.le_trans (bnd_le _) (by decide)) hxr
  have HT := fun W => times_any x.rows t.rows W hxr htr
  have S := fun W => scan_any t.rows t.pages (.slice t.oi t.ix.length t.ci) W
  have HCl := hid (fun W (hg : Gr w W) => clone_any oa c x.l W hl (hp.keep hg))
  rw [hn] at H0
  have b0 := lt_of_cell t0
  unfold St.val
  generalize Fl.fw (min (x.a + x.rows.toNat * bnd t.pages) 9007199254740992) = LA at *
  generalize Fl.fw (min (x.b + x.rows.toNat * bnd t.rows) 9007199254740992) = LB at *
  generalize timesI x.rows t.rows = TT at *
  generalize Fl.fw (bnd t.pages) = C1 at *
  generalize Fl.fw (bnd t.rows) = D1 at *
  generalize Fl.fw x.a = A at *
  generalize Fl.fw x.b = B at *
  have HL := hid HL
  have HT := hid HT
  clear hn hp
  have g1 : decide ((k : Int) < 0) = false := by simp
  have g2 : decide ((ns : Int) ≤ (k : Int)) = false := by simp; omega
  have g4 : decide ((-1 : Int) < -1) = false := by decide
  have g5 : decide ((nq : Int) ≤ -1) = false := by simp; omega
  have g2n : decide (ns ≤ k) = false := by rw [decide_eq_false_iff_not]; omega
  go_enter Try.func18, Try.ntmps18
  go_wp2_with fail
  refine (H0 _ ?_).mono ?_
  · repeat' (first | exact Gr.refl _ | exact Nat.le_refl _ | exact Nat.le_add_right _ _ | refine Gr.setCell ?_ ?_ _ | refine Gr.alloc ?_ _ | refine Gr.drew ?_ | refine Gr.trans ?_ (by assumption) | omega | (dsimp only; omega))
  rintro e w1 ⟨rfl, hg⟩
  have hg1 := ((((Gr.refl w).alloc _).alloc _).alloc _).trans hg
  have m0 := hg1.keep t0
  have m1 := hg1.keep t1
  have m2 := hg1.keep t2
  have p0 : w1.cell? ⟨w.heap.size + 1, 0, none⟩ = some (.int .i64 k) := hg.keep (by go_simp)
  have p1 : w1.cell? ⟨w.heap.size + 1, 1, none⟩ = some (.int .i64 (-1)) := hg.keep (by go_simp)
  have r0 : w1.cell? ⟨w.heap.size, 0, none⟩ = some (.slice oa x.l.length c) := hg.keep (by go_simp)
  have r1 : w1.cell? ⟨w.heap.size, 1, none⟩ = some (.complex .f64 A B) := hg.keep (by go_simp)
  have r2 : w1.cell? ⟨w.heap.size, 2, none⟩ = some (.int .i64 x.rows) := hg.keep (by go_simp)
  have k0 : w1.cell? ⟨w.heap.size + 1 + 1, 0, none⟩ = some (.slice none 0 0) := hg.keep (by go_simp)
  have k1 : w1.cell? ⟨w.heap.size + 1 + 1, 1, none⟩ = some (.complex .f64 0 0) := hg.keep (by go_simp)
  have k2 : w1.cell? ⟨w.heap.size + 1 + 1, 2, none⟩ = some (.int .i64 0) := hg.keep (by go_simp)
  have f0 : w1.frozen? ⟨w.heap.size + 1 + 1, 0, none⟩ = false := by rw [Gr.frees hg _ _ (by go_simp)]; go_simp
  have f1 : w1.frozen? ⟨w.heap.size + 1 + 1, 1, none⟩ = false := by rw [Gr.frees hg _ _ (by go_simp)]; go_simp
  have f2 : w1.frozen? ⟨w.heap.size + 1 + 1, 2, none⟩ = false := by rw [Gr.frees hg _ _ (by go_simp)]; go_simp
  have z0 := lt_of_cell m0
  have z2 := lt_of_cell p0
  have z3 := lt_of_cell r0
  have z4 := lt_of_cell k0
  clear t0 t1 t2 H0
  go_upto_region 4 with (fail)
  obtain ⟨Z, hZ⟩ : ∃ Z : World, Z = w1.alloc (.cells #[.int .i64 t.rows, .int .i64 t.pages, .slice t.oi t.ix.length t.ci] 26) := ⟨_, rfl⟩
  have gZ : Gr w1 Z := by rw [hZ]; exact (Gr.refl _).alloc _
  have s0 : Z.cell? ⟨w1.heap.size, 0, none⟩ = some (.int .i64 t.rows) := by rw [hZ]; go_simp
  have s1 : Z.cell? ⟨w1.heap.size, 1, none⟩ = some (.int .i64 t.pages) := by rw [hZ]; go_simp
  have s2 : Z.cell? ⟨w1.heap.size, 2, none⟩ = some (.slice t.oi t.ix.length t.ci) := by rw [hZ]; go_simp
  rw [← hZ]
  have z5 := lt_of_cell s0
  clear hZ
  have f0 := Gr.keepF gZ z4 f0
  have f1 := Gr.keepF gZ z4 f1
  have f2 := Gr.keepF gZ z4 f2
  have z7 : w.heap.size + 1 + 1 < Z.heap.size := lt_of_cell (gZ.keep k0)
  generalize w1.heap.size = B4 at *
  go_cut [11, 12] from 49 to 107 (fun s11 s12 wx => s11 = .complex .f64 C1 D1 ∧ s12 = .int .i64 t.rows ∧ Gr Z wx)
  case first =>
    go_region_with (go_at_call 7; refine (S _).mono ?_; rintro e w' ⟨rfl, hg⟩; have hc := Gr.cells hg; have hf := Gr.frees hg; have hz := Gr.size hg; try simp only [World.size_drew] at hz; try (have : B4 < w'.heap.size := by omega); have ss0 := ((Gr.refl Z).drew.trans hg).keep s0)
    all_goals
      go_wp2_with fail
      go_meet
      refine ⟨rfl, rfl, ?_⟩
      repeat' (first | exact Gr.refl _ | exact Nat.le_refl _ | exact Nat.le_add_right _ _ | refine Gr.setCell ?_ ?_ _ | refine Gr.alloc ?_ _ | refine Gr.drew ?_ | refine Gr.trans ?_ (by assumption) | omega | (dsimp only; omega))
  case rest =>
    obtain ⟨rfl, rfl, hgr⟩ := hcut
    have hgW := gZ.trans hgr
    have p0 := hgW.keep p0
    have p1 := hgW.keep p1
    have r0 := hgW.keep r0
    have r1 := hgW.keep r1
    have r2 := hgW.keep r2
    have k0 := hgW.keep k0
    have k1 := hgW.keep k1
    have k2 := hgW.keep k2
    have hg1 := hg1.trans hgW
    have f0 := Gr.keepF hgr z7 f0
    have f1 := Gr.keepF hgr z7 f1
    have f2 := Gr.keepF hgr z7 f2
    have z2 := lt_of_cell p0
    have z3 := lt_of_cell r0
    have z4 := lt_of_cell k0
    clear hgr hgW gZ hg S s0 s1 s2 m0 m1 m2
    go_upto_region 11 with (fail)
    refine Rg.region_app (W := wc) 16 [] 5 [2, 4] [(2, G2 wc.heap.size x.l), (4, G4 ((k : Int), (-1))), (5, G5 wc.heap.size x.l ((k : Int), (-1)))] [2, 4, 5]
      [some (.pointer (some ⟨w.heap.size, 0, none⟩)), some (.slice oa x.l.length c), none, some (.agg #[.int .i64 (k : Int), .int .i64 (-1)]), none, none,
       some (.pointer (some ⟨w.heap.size, 1, none⟩)), some (.complex .f64 A B), some (.pointer (some ⟨w.heap.size, 2, none⟩)), some (.int .i64 x.rows), some (.complex .f64 C1 D1), some (.complex .f64 LA LB),
       some (.pointer (some ⟨w.heap.size, 2, none⟩)), some (.int .i64 x.rows), some (.int .i64 t.rows), some (.int .i64 TT)]
      (Below.drew (Below.refl _ _)) (by kernel_rfl) (by kernel_rfl) ⟨rfl, rfl, rfl, trivial⟩ (g_keep _ _ _) (fun _ _ d _ _ h => by cases d <;> exact h) (by decide) ?_
    intro v
    simp only [List.take_succ_cons, List.take_zero, Rg.wpA, Option.getD_some, Option.getD_none, Act.put, List.setIfInBounds_toArray, List.set_cons_zero, List.set_cons_succ]
    refine ⟨?_, ?_, ?_, ?_, ?_, ?_, ?_, ?_, ?_, ?_, ?_, ?_, ?_, ?_, ?_, ?_, ?_⟩
    all_goals first
      | (refine sa_det (by rfl) (by rfl) (fun w' hS => ?_)
         have hc := Gr.cells hS
         have hf := Gr.frees hS
         go_simp
         first
         | exact Below.refl _ _
         | (refine ⟨?_, Below.refl _ _⟩; with_reducible rfl)
         | ((with_reducible refine (HL.out _).mono ?_); rintro e w' ⟨rfl, rfl⟩; refine ⟨?_, Below.refl _ _⟩; with_reducible rfl)
         | ((with_reducible refine (HT.out _).mono ?_); rintro e w' ⟨rfl, rfl⟩; refine ⟨?_, Below.refl _ _⟩; with_reducible rfl))
      | (refine sa_free (by rfl) (by rfl) (by rfl) (fun w' hS => ?_)
         have hgr := Gr.trans hg1 hS
         have hc := Gr.cells hS
         have hf := Gr.frees hS
         go_simp
         first
         | ((with_reducible refine (HCl.out _ ?_).mono ?_)
            · exact hgr
            rintro e w'' ⟨u, rfl, hown, hg⟩
            exact ⟨u, rfl, own_mono hown (Gr.size hS), hg⟩)
         | exact ⟨⟨_, rfl, by go_simp, by go_simp⟩, (Gr.refl _).alloc _⟩)
      | (refine sa_append (.tmp 93) (.tmp 95) (v 2) (v 4) (by rfl) (by rfl) (by rfl) (by rfl) (by rfl) (by rfl) (fun w' hS hF => ?_)
         obtain ⟨h2, h4, -⟩ := hF
         exact app_step hS hl h2 h4 _)
      | skip
    intro w6 hK
    have hup : Gr wc w6 := hK.up
    have h5 : G5 wc.heap.size x.l ((k : Int), (-1)) (v 5) w6 := hK.fact 5 (by decide) rfl rfl (.inr rfl)
    generalize v 5 = v5 at *
    clear hK
    generalize v 2 = v2 at *
    generalize v 4 = v4 at *
    have hgw : Gr w w6 := Gr.trans hg1 hup
    have b8 : w.heap.size + 1 + 1 < wc.heap.size := z4
    have kk0 := Gr.keep hup k0
    have kk1 := Gr.keep hup k1
    have kk2 := Gr.keep hup k2
    have ff0 := Gr.keepF hup z4 f0
    have ff1 := Gr.keepF hup z4 f1
    have ff2 := Gr.keepF hup z4 f2
    have z9 : w.heap.size + 1 + 1 < w6.heap.size := lt_of_cell kk0
    have HB := hid b8
    have HX := hid hg1
    generalize wc.heap.size = XS at *
    unfold G5 at h5
    have hlen : (x.l ++ [((k : Int), (-1))]).length = x.l.length + 1 := by simp
    rw [← hlen] at h5
    generalize x.l ++ [((k : Int), (-1))] = PL at *
    obtain ⟨oa', c', rfl, hle, -, -⟩ := own_form h5
    clear hlen
    have HO := hid h5
    clear h5 hup
    go_wp2
    refine bodyPost_ret (v := .tuple #[.agg #[.slice oa' PL.length c', .complex .f64 LA LB, .int .i64 TT], .bool true]) (by simp [results, Try.results18, go_sem, run_store_complex, *]; try rfl) rfl ?_
    have h6 := HO.out
    obtain ⟨oa2, c2, e2, hle2, hp2, hf2⟩ := own_form (own_set (own_set (own_set h6 (a := ⟨w.heap.size + 1 + 1, 0, none⟩) HB.out (.slice oa' PL.length c')) (a := ⟨w.heap.size + 1 + 1, 1, none⟩) HB.out (.complex .f64 LA LB)) (a := ⟨w.heap.size + 1 + 1, 2, none⟩) HB.out (.int .i64 TT))
    cases e2
    refine ⟨_, _, rfl, hle, hp2, ?_, ?_⟩
    · intro g o q e
      obtain ⟨h7, h8⟩ := hf2 g o q e
      have := HB.out
      exact ⟨by omega, h8⟩
    · repeat' (first | exact Gr.refl _ | exact Nat.le_refl _ | exact Nat.le_add_right _ _ | refine Gr.setCell ?_ ?_ _ | refine Gr.alloc ?_ _ | refine Gr.drew ?_ | refine Gr.trans ?_ (by assumption) | omega | (dsimp only; omega))
end Go.Proofs.Ytemhfaknmagebaa
