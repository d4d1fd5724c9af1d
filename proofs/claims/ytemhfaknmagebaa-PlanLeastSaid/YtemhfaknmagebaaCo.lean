/- plan: Cost. -/
import Derived.Test.YtemhfaknmagebaaBe
import Derived.Test.YtemhfaknmagebaaRf
namespace Go.Proofs.Ytemhfaknmagebaa
open Go.RowKit
set_option linter.unusedSimpArgs false
set_option linter.unusedVariables false
attribute [local go_sem] Rg.once_normal Rg.once_exit Rg.once_ret Rg.once_panic Rg.once_goto Rg.leads_value Rg.leads_skip Rg.leads_enter Rg.brings_value Rg.brings_skip Rg.brings_enter Rg.bringsG_value Rg.bringsG_enter
attribute [local go_sem] run_store_complex
def costR (stats : List Tb) (preds : List Pr) (l : List (Int × Int)) : Option St := if l.length = stats.length then runR stats preds st0 l else none
def costV : Option St → Value
  | none => .tuple #[.complex .f64 0 0, .int .i64 0, .bool false]
  | some s => .tuple #[.complex .f64 (Fl.fw s.a) (Fl.fw s.b), .int .i64 s.rows, .bool true]
theorem sf_det {P : Program} {ops : Array Oper} {W : World} {F : List Nat} {Ds : List (Nat × List Nat)} {Gs : List (Nat × (Value → World → Prop))} {fr : Nat → Bool} {v : Nat → Value} {c : Value} {i : Nat} {o : Oper} {a : Act}
    (hF : F.contains i = false) (hw : Region.wanted o (yielded ops a.tmps) = true) (h : ∀ w, Rg.Up W w → Rg.facts Gs v w (Rg.Dat Ds i) → Rg.Brings P w c ((execOp a.eval o).run P w)) : Rg.StepOf P ops W F Ds Gs fr v (some c) i o a := by
  unfold Rg.StepOf
  simp only [hF, Bool.false_eq_true, if_false]
  exact Or.inl ⟨hw, h⟩
theorem sf_flt {P : Program} {ops : Array Oper} {W : World} {F : List Nat} {Ds : List (Nat × List Nat)} {Gs : List (Nat × (Value → World → Prop))} {fr : Nat → Bool} {v : Nat → Value} {c : Value} {i : Nat} {o : Oper} {a : Act}
    (hF : F.contains i = true) (h : ∀ w, Rg.Up W w → Rg.facts Gs v w (Rg.Dat Ds i) → Yields P ops o c a) : Rg.StepOf P ops W F Ds Gs fr v (some c) i o a := by
  unfold Rg.StepOf
  simp only [hF, if_true]
  exact h
theorem sf_free {P : Program} {ops : Array Oper} {W : World} {F : List Nat} {Ds : List (Nat × List Nat)} {Gs : List (Nat × (Value → World → Prop))} {fr : Nat → Bool} {v : Nat → Value} {i : Nat} {o : Oper} {a : Act}
    (hF : F.contains i = false) (hw : Region.wanted o (yielded ops a.tmps) = true) (h : ∀ w, Rg.Up W w → Rg.facts Gs v w (Rg.Dat Ds i) → Rg.BringsG P w (Rg.Gat Gs i) (fr i) ((execOp a.eval o).run P w)) : Rg.StepOf P ops W F Ds Gs fr v none i o a := ⟨hF, hw, h⟩
/-- a plan that with told -/
def GY (base : Nat) (r : Option St) (oy : Option Addr) (ny cy AY BY : Nat) (ry : Int) (w : World) : Prop := Hid (∀ y, r = some y → ny = y.l.length ∧ AY = Fl.fw y.a ∧ BY = Fl.fw y.b ∧ ry = y.rows ∧ ZOK base w ⟨y, oy, cy⟩)
theorem GY.up {base : Nat} {r : Option St} {oy : Option Addr} {ny cy AY BY : Nat} {ry : Int} {w w' : World} (h : GY base r oy ny cy AY BY ry w) (hg : Gr w w') : GY base r oy ny cy AY BY ry w' := hid (fun y e => by
  obtain ⟨a1, a2, a3, a4, a5⟩ := h.out y e
  exact ⟨a1, a2, a3, a4, a5.gr hg⟩)
def GT (base : Nat) (r : Option St) (u : Value) (w : World) : Prop := ∃ oy ny cy AY BY ry, u = .tuple #[.agg #[.slice oy ny cy, .complex .f64 AY BY, .int .i64 ry], .bool r.isSome] ∧ GY base r oy ny cy AY BY ry w
def GS (base : Nat) (r : Option St) (u : Value) (w : World) : Prop := ∃ oy ny cy AY BY ry, u = .agg #[.slice oy ny cy, .complex .f64 AY BY, .int .i64 ry] ∧ GY base r oy ny cy AY BY ry w
theorem gt_keep (base : Nat) (r : Option St) : ∀ k u w w', Rg.Gat [(7, GT base r), (8, GT base r), (9, GS base r)] k u w → Rg.Up w w' → Rg.Gat [(7, GT base r), (8, GT base r), (9, GS base r)] k u w' := by
  intro k u w w' h hu
  unfold Rg.Gat at h ⊢
  split at h
  · rename_i hk; rw [if_pos hk]
    obtain ⟨a, b, c, d, e, f, h1, h2⟩ := h
    exact ⟨a, b, c, d, e, f, h1, h2.up hu⟩
  · rename_i hk; rw [if_neg hk]
    unfold Rg.Gat at h ⊢
    split at h
    · rename_i hk; rw [if_pos hk]
      obtain ⟨a, b, c, d, e, f, h1, h2⟩ := h
      exact ⟨a, b, c, d, e, f, h1, h2.up hu⟩
    · rename_i hk; rw [if_neg hk]
      unfold Rg.Gat at h ⊢
      split at h
      · rename_i hk; rw [if_pos hk]
        obtain ⟨a, b, c, d, e, f, h1, h2⟩ := h
        exact ⟨a, b, c, d, e, f, h1, h2.up hu⟩
      · rename_i hk; rw [if_neg hk]; trivial
theorem with_GT {base : Nat} {r : Option St} {w : World} {e : Ending} {w' : World} (hb : base ≤ w.heap.size) (h : WithU w r e w') : ∃ u, e = .returned u ∧ GT base r u w' ∧ Gr w w' := by
  obtain ⟨oy, ny, cy, AY, BY, ry, ok, he, hg, hok, hy⟩ := h
  have := hok.out
  subst this
  exact ⟨_, he, ⟨_, _, _, _, _, _, rfl, hid (fun y e => by
    obtain ⟨a1, a2, a3, a4, a5⟩ := hy.out y e
    exact ⟨a1, a2, a3, a4, a5.up hb⟩)⟩, hg⟩
/-- the plan in the variable's cells -/
def CellsOf (g : Nat) (o : Option St) (k : Nat) (w : World) : Prop := ∀ x, o = some x → ∃ oa c, w.cell? ⟨g, 0, none⟩ = some (.slice oa x.l.length c) ∧ w.cell? ⟨g, 1, none⟩ = some (.complex .f64 (Fl.fw x.a) (Fl.fw x.b)) ∧ w.cell? ⟨g, 2, none⟩ = some (.int .i64 x.rows) ∧ PAt w oa x.l ∧ Sm x ∧ x.rows ≤ 9223372036854775807 ∧ x.l.length = k
def CRel (w : World) (stats : List Tb) (preds : List Pr) (l : List (Int × Int)) (T : Option St) (s10 s11 : Value) (wr : World) : Prop :=
  ∃ (k : Nat) (o : Option St), s11 = .int .i64 k ∧ s10 = .bool o.isSome ∧ k ≤ l.length ∧ Gr w wr ∧ Hid (o.bind (fun x => runR stats preds x (l.drop k)) = T) ∧ Hid (CellsOf w.heap.size o k wr) ∧ w.heap.size < wr.heap.size ∧ wr.frozen? ⟨w.heap.size, 0, none⟩ = false ∧ wr.frozen? ⟨w.heap.size, 1, none⟩ = false ∧ wr.frozen? ⟨w.heap.size, 2, none⟩ = false ∧ Hid (o.isSome = true → l.length = stats.length)
set_option maxHeartbeats 4000000 in
set_option maxRecDepth 100000 in
theorem cost_any (os oq ol : Option Addr) (cs cq cl : Nat) (stats : List Tb) (preds : List Pr) (l : List (Int × Int)) (w : World) (hns : stats.length ≤ 100000) (hnq : preds.length ≤ 1000000) (hll : l.length ≤ 9223372036854775807) (hS : SAt w os stats) (hQ : QAt w oq preds) (hP : PAt w ol l) :
    Calls Try.prog 9 #[.slice os stats.length cs, .slice oq preds.length cq, .slice ol l.length cl] w fun e w' => e = .returned (costV (costR stats preds l)) ∧ Gr w w' := by
  obtain ⟨o0, ho0, hi0⟩ : ∃ o : Option St, (if l.length = stats.length then some st0 else none) = o ∧ (o = none ∨ (o = some st0 ∧ l.length = stats.length)) := by
    by_cases h : l.length = stats.length
    · exact ⟨some st0, by rw [if_pos h], .inr ⟨rfl, h⟩⟩
    · exact ⟨none, by rw [if_neg h], .inl rfl⟩
  have hT : Hid (o0.bind (fun x => runR stats preds x (l.drop 0)) = costR stats preds l) := hid (by
    rw [← ho0]; unfold costR; split <;> rfl)
  have hlen : Hid (o0.isSome = true → l.length = stats.length) := hid (by rcases hi0 with rfl | ⟨rfl, h⟩ <;> simp_all)
  have e1 : ((l.length : Int) == (stats.length : Int)) = o0.isSome := by
    rw [← ho0]; split
    · rename_i h; rw [h]; simp
    · rename_i h; simp; omega
  have e2 : (l.length == stats.length) = o0.isSome := by
    rw [← ho0]; split
    · rename_i h; rw [h]; simp
    · rename_i h; simpa using h
  have HC0 : Hid (∀ W, W.cell? ⟨w.heap.size, 0, none⟩ = some (.slice none 0 0) → W.cell? ⟨w.heap.size, 1, none⟩ = some (.complex .f64 0 0) → W.cell? ⟨w.heap.size, 2, none⟩ = some (.int .i64 1) → CellsOf w.heap.size o0 0 W) := hid (fun W h0 h1 h2 x hx => by
    rcases hi0 with rfl | ⟨rfl, -⟩
    · cases hx
    · cases hx
      refine ⟨none, 0, h0, ?_, h2, .inl rfl, ⟨by simp [st0], by simp [st0]⟩, by simp [st0], rfl⟩
      rw [h1]; unfold st0; simp only [fw_zero])
  have HWi := fun x oa c p W (hg : Gr w W) (h1 : x.l.length ≤ 1000000) (h2 : PAt W oa x.l) (h3 : Sm x) (h4 : x.rows ≤ 9223372036854775807) => (with_any x oa os oq c cs cq stats preds p W h1 (by omega) (by omega) h2 (hS.keep hg) (hQ.keep hg) h3 h4).mono fun e w' h => withU h
  have HW := hid HWi
  have HP := hid hP
  obtain ⟨T, hTT⟩ : ∃ T, costR stats preds l = T := ⟨_, rfl⟩
  rw [hTT] at hT ⊢
  obtain ⟨bb, hbb⟩ : ∃ b, o0.isSome = b := ⟨_, rfl⟩
  rw [hbb] at e1 e2
  have Hbb := hid hbb
  clear hTT HWi hS hQ hP hbb ho0 hi0
  go_enter Try.func9, Try.ntmps9
  go_wp2_with fail
  go_loopw [10, 11] (fun s10 s11 wr => CRel w stats preds l T s10 s11 wr) (fun s10 s11 _ => l.length - (intOf s11).toNat)
  case atStart =>
    refine ⟨0, o0, rfl, by rw [Hbb.out], Nat.zero_le _, (Gr.refl _).alloc _, hT, hid (HC0.out _ ?_ ?_ ?_), ?_, ?_, ?_, ?_, hlen⟩
    all_goals go_simp
  case round =>
    obtain ⟨k, o, rfl, rfl, hk, hg, hT, hC, hz, f0, f1, f2, hL⟩ := hrel
    clear HC0 hlen
    by_cases hgo : o.isSome = true ∧ k < l.length
    · obtain ⟨hob, hlt⟩ := hgo
      obtain ⟨x, rfl⟩ : ∃ x, o = some x := by cases o with | none => cases hob | some x => exact ⟨x, rfl⟩
      obtain ⟨oa, c, c0, c1, c2, hp, hsm, hxr, hxl⟩ := hC.out x rfl
      obtain ⟨b', off', rfl, d0, d1⟩ := (HP.out.keep hg).getX k hlt
      have zz := lt_of_cell d0
      have hT2 := hT.out
      simp only [Option.bind_some] at hT2
      rw [List.drop_eq_getElem_cons hlt] at hT2
      unfold runR at hT2
      have hLs := hL.out hob
      have HW1 : Hid (∀ W, Rg.Up _ W → _) := hid (fun W (h : Rg.Up _ W) => HW.out x oa c l[k] W (hg.trans h) (by omega) (hp.keep h) hsm hxr)
      obtain ⟨r, hr⟩ : ∃ r, withR x l[k] stats preds = r := ⟨_, rfl⟩
      rw [hr] at HW1 hT2
      have hT3 : Hid ((r.bind fun y => runR stats preds y (l.drop (k + 1))) = T) := hid (by rw [← hT2]; cases r <;> rfl)
      have hyr : Hid (∀ y, r = some y → Sm y ∧ y.rows ≤ 9223372036854775807 ∧ y.l.length = k + 1) := hid (fun y e => by
        subst e
        have h1 := with_rows hr
        exact ⟨(with_sm hsm hr).1, by omega, by rw [with_l hr]; simp [hxl]⟩)
      have gk : decide ((l.length : Int) ≤ (k : Int)) = false := by simp; omega
      have gk2 : decide (l.length ≤ k) = false := by simp; omega
      unfold St.val at HW1
      have hkb : Hid (k < 100000) := hid (by omega)
      clear hT2 hr hT hC hp hsm hxr hob hxl
      generalize l[k] = p at *
      generalize p.1 = p1 at *
      generalize p.2 = p2 at *
      generalize Fl.fw x.a = XA at *
      generalize Fl.fw x.b = XB at *
      generalize x.l.length = xn at *
      generalize x.rows = xr at *
      go_upto_region 5 with (fail)
      refine Rg.region_facts (W := wr) 11 [10] [(8, [7]), (9, [8]), (10, [8])] [(7, GT wr.heap.size r), (8, GT wr.heap.size r), (9, GS wr.heap.size r)] (fun _ => false) [7, 8, 9]
        [some (.agg #[.slice oa xn c, .complex .f64 XA XB, .int .i64 xr]), some (.slice os stats.length cs), some (.slice oq preds.length cq), some (.slice (some ⟨b', off', none⟩) l.length cl), some (.int .i64 (k : Int)),
         some (.pointer (some ⟨b', off' + k * 2, none⟩)), some (.agg #[.int .i64 p1, .int .i64 p2]), none, none, none, some (.bool r.isSome)]
        (Below.drew (Below.refl _ _)) (by kernel_rfl) (by kernel_rfl) ⟨rfl, rfl, rfl, trivial⟩ (gt_keep _ _) (fun _ _ d _ _ h => by cases d <;> exact h) ?_
      intro v
      simp only [List.take_succ_cons, List.take_zero, Rg.wpF, Option.getD_some, Option.getD_none, Act.put, List.setIfInBounds_toArray, List.set_cons_zero, List.set_cons_succ]
      refine ⟨?_, ?_, ?_, ?_, ?_, ?_, ?_, ?_, ?_, ?_, ?_, ?_⟩
      all_goals first
        | (refine sf_det (by rfl) (by rfl) (fun w' hS hF => ?_)
           have hc := Gr.cells hS
           have hf := Gr.frees hS
           go_simp
           first
           | exact Below.refl _ _
           | (refine ⟨?_, Below.refl _ _⟩; with_reducible rfl))
        | (refine sf_flt (by rfl) (fun w' hS hF => ?_)
           obtain ⟨⟨oy, ny, cy, AY, BY, ry, e, -⟩, -⟩ := hF
           rw [e]
           refine Or.inl ⟨by rfl, fun w'' => ?_⟩
           go_simp
           try with_reducible rfl)
        | (refine sf_free (by rfl) (by rfl) (fun w' hS hF => ?_)
           go_simp
           first
           | ((with_reducible refine (HW1.out _ hS).mono ?_)
              rintro e w'' h
              obtain ⟨u, rfl, hG, hg⟩ := with_GT (Gr.size hS) h
              exact ⟨u, rfl, hG, hg⟩)
           | exact ⟨hF.1, Below.refl _ _⟩
           | (obtain ⟨⟨oy, ny, cy, AY, BY, ry, e, hy⟩, -⟩ := hF
              rw [e]
              go_simp
              exact ⟨⟨_, _, _, _, _, _, rfl, hy⟩, Below.refl _ _⟩))
        | skip
      intro w6 hK
      have hup : Gr wr w6 := hK.up
      obtain ⟨oy, ny, cy, AY, BY, ry, e9, hy⟩ : GS wr.heap.size r (v 9) w6 := hK.fact 9 (by decide) rfl rfl
      rw [e9]
      clear hK e9
      generalize v 7 = v7 at *
      generalize v 8 = v8 at *
      have ff0 := Gr.keepF hup hz f0
      have ff1 := Gr.keepF hup hz f1
      have ff2 := Gr.keepF hup hz f2
      have zz6 : w.heap.size < w6.heap.size := Nat.lt_of_lt_of_le hz hup.size
      have k0 := hup.keep c0
      have k1 := hup.keep c1
      have k2 := hup.keep c2
      have hGs : Gr w (((w6.setCell ⟨w.heap.size, 0, none⟩ (.slice oy ny cy)).setCell ⟨w.heap.size, 1, none⟩ (.complex .f64 AY BY)).setCell ⟨w.heap.size, 2, none⟩ (.int .i64 ry)) := (((hg.trans hup).setCell (Nat.le_refl _) _).setCell (Nat.le_refl _) _).setCell (Nat.le_refl _) _
      have hGx : Gx w.heap.size w6 (((w6.setCell ⟨w.heap.size, 0, none⟩ (.slice oy ny cy)).setCell ⟨w.heap.size, 1, none⟩ (.complex .f64 AY BY)).setCell ⟨w.heap.size, 2, none⟩ (.int .i64 ry)) := (((Gx.refl _ _).set _ _).set _ _).set _ _
      have hCs : Hid (CellsOf w.heap.size r (k + 1) (((w6.setCell ⟨w.heap.size, 0, none⟩ (.slice oy ny cy)).setCell ⟨w.heap.size, 1, none⟩ (.complex .f64 AY BY)).setCell ⟨w.heap.size, 2, none⟩ (.int .i64 ry))) := hid (fun y e => by
        obtain ⟨a1, a2, a3, a4, a5⟩ := hy.out y e
        obtain ⟨b1, b2, b3⟩ := hyr.out y e
        rw [← a1, ← a2, ← a3, ← a4]
        refine ⟨oy, cy, by go_simp, by go_simp, by go_simp, a5.2.1.gx (fun b o q e => ?_) hGx, b1, ?_, by rw [a1]; exact b3⟩
        · have := (a5.2.2 b o q e).1; omega
        · rw [a4]; exact b2)
      have hGs := hid hGs
      have hrs : Hid (r.isSome = r.isSome) := hid rfl
      have hLl := hid hLs
      clear hGx hy f0 f1 f2 c0 c1 c2
      go_wp2
      refine ⟨⟨k + 1, r, by go_num, rfl, by omega, hGs.out, hT3, hCs, ?_, ?_, ?_, ?_, hid (fun _ => hLl.out)⟩, by simp [intOf]; omega⟩
      all_goals go_simp
    · cases o with
      | none =>
        have hTn : T = none := by rw [← hT.out]; rfl
        subst hTn
        clear hT hC
        go_wp2
        refine bodyPost_ret (by simp [results, Try.results9, go_sem]; try rfl) rfl ⟨rfl, hg⟩
      | some x =>
        have hkl : k = l.length := by simp at hgo; omega
        have hTs : T = some x := by
          rw [← hT.out, hkl, List.drop_length]; rfl
        subst hTs
        obtain ⟨oa, c, c0, c1, c2, -⟩ := hC.out x rfl
        have hV : Hid (costV (some x) = .tuple #[.complex .f64 (Fl.fw x.a) (Fl.fw x.b), .int .i64 x.rows, .bool true]) := hid rfl
        generalize Fl.fw x.a = XA at *
        generalize Fl.fw x.b = XB at *
        generalize x.rows = xr at *
        generalize x.l.length = xn at *
        clear hT hC hgo hL
        subst hkl
        go_wp2_with fail
        go_quiet (fail)
        go_wp2
        refine bodyPost_ret (by simp [results, Try.results9, go_sem]; try rfl) rfl ⟨by rw [hV.out], hg.drewN _⟩
end Go.Proofs.Ytemhfaknmagebaa
