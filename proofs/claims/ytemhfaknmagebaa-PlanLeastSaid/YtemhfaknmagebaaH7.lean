/- plan: state.with by an index, done. -/
import Derived.Test.YtemhfaknmagebaaH6
namespace Go.Proofs.Ytemhfaknmagebaa
open Go.RowKit
set_option linter.unusedSimpArgs false
set_option linter.unusedVariables false
attribute [local go_sem] Rg.once_normal Rg.once_exit Rg.once_ret Rg.once_panic Rg.once_goto Rg.leads_value Rg.leads_skip Rg.leads_enter Rg.brings_value Rg.brings_skip Rg.brings_enter Rg.bringsG_value Rg.bringsG_enter
attribute [local go_sem] run_store_complex
theorem probeL_bd {rows c r : Int} : ∀ {ix : List (Int × Int)}, probeL rows c ix = some r → 0 ≤ r ∧ r ≤ max rows 0
  | [], h => by simp [probeL] at h
  | x :: l, h => by
    unfold probeL at h
    split at h
    · cases h
      exact cdiv_bd _ _ (by omega) (by omega)
    · exact probeL_bd h
theorem probeL_le {rows c r : Int} {ix : List (Int × Int)} (h : rows ≤ 9223372036854775807) (h2 : probeL rows c ix = some r) : r ≤ 9223372036854775807 := by
  have := probeL_bd h2
  omega
set_option maxHeartbeats 4000000 in
set_option maxRecDepth 100000 in
theorem with_probe (x : St) (oa os oq : Option Addr) (c cs cq ns nq : Nat) (k j : Nat) (b off b' off' : Nat) (t : Tb) (q : Pr) (w : World) (hl : x.l.length ≤ 1000000) (hns : ns ≤ 9223372036854775807) (hnq : nq ≤ 9223372036854775807) (hp : PAt w oa x.l)
    (hk : k < ns) (hj : j < nq) (hn : hasP k x.l = false)
    (t0 : w.cell? ⟨b, off + k * 3, none⟩ = some (.int .i64 t.rows)) (t1 : w.cell? ⟨b, off + k * 3 + 1, none⟩ = some (.int .i64 t.pages)) (t2 : w.cell? ⟨b, off + k * 3 + 2, none⟩ = some (.slice t.oi t.ix.length t.ci)) (ht : PAt w t.oi t.ix) (htl : t.ix.length ≤ 1000000) (htr : t.rows ≤ 9223372036854775807)
    (q0 : w.cell? ⟨b', off' + j * 4, none⟩ = some (.int .i64 q.t)) (q1 : w.cell? ⟨b', off' + j * 4 + 1, none⟩ = some (.int .i64 q.c)) (q2 : w.cell? ⟨b', off' + j * 4 + 2, none⟩ = some (.int .i64 q.f)) (q3 : w.cell? ⟨b', off' + j * 4 + 3, none⟩ = some (.int .i64 q.g))
    (hxa : x.a ≤ 9007199254740992) (hxb : x.b ≤ 9007199254740992) (hxr : x.rows ≤ 9223372036854775807) (r : Int) (hqt : q.t = k) (hqf : q.f = -1 ∨ hasP q.f x.l = true) (hpr : probeL t.rows q.c t.ix = some r) :
    Calls Try.prog 18 #[x.val oa c, .slice (some ⟨b, off, none⟩) ns cs, .slice (some ⟨b', off', none⟩) nq cq, .agg #[.int .i64 k, .int .i64 j]] w (WithP w (addR x (k, j) (bnd (2 + min r 1099511627776)) (bnd r) r)) := by
  show Calls _ _ _ _ (WithV w (x.l ++ [((k : Int), (j : Int))]) (Fl.fw (min (x.a + x.rows.toNat * bnd (2 + min r 1099511627776)) 9007199254740992)) (Fl.fw (min (x.b + x.rows.toNat * bnd r) 9007199254740992)) (timesI x.rows r))
  have hrr := probeL_le htr hpr
  have HL := fun W => loop_any x.a x.b (bnd (2 + min r 1099511627776)) (bnd r) x.rows W hxa hxb (Nat.le_trans (bnd_le _) (by decide)) (Nat.le_trans (bnd_le _) (by decide)) hxr
  have HT := fun W => times_any x.rows r W hxr hrr
  have HCl := hid (fun W (hg : Gr w W) => clone_any oa c x.l W hl (hp.keep hg))
  have H := fun T W hg => has_any oa c x.l (Fl.fw x.a) (Fl.fw x.b) x.rows T W (by omega) (hp.keep hg)
  have P := fun W hg => probe_at t.rows t.pages q.c t.oi t.ci t.ix W htl (ht.keep hg) htr
  rw [hpr] at P
  simp only [probeV] at P
  have S := fun W => scan_any t.rows t.pages (.slice t.oi t.ix.length t.ci) W
  have H0 := H k
  rw [hn] at H0
  have b0 := lt_of_cell t0
  have b1 := lt_of_cell q0
  unfold St.val
  generalize Fl.fw (min (x.a + x.rows.toNat * bnd (2 + min r 1099511627776)) 9007199254740992) = LA at *
  generalize Fl.fw (min (x.b + x.rows.toNat * bnd r) 9007199254740992) = LB at *
  generalize timesI x.rows r = TT at *
  generalize Fl.fw (bnd (2 + min r 1099511627776)) = C1 at *
  generalize Fl.fw (bnd r) = D1 at *
  generalize Fl.fw (bnd t.pages) = C0 at *
  generalize Fl.fw (bnd t.rows) = D0 at *
  generalize Fl.fw x.a = A at *
  generalize Fl.fw x.b = B at *
  have HH := hid H
  have HP := hid P
  have HL := hid HL
  have HT := hid HT
  have e1 : (q.t != (k : Int)) = false := by simp [hqt]
  have HF := hid hqf
  clear H P hn ht hp hrr hpr hqt hqf
  have g1 : decide ((k : Int) < 0) = false := by simp
  have g2 : decide ((ns : Int) ≤ (k : Int)) = false := by simp; omega
  have g4 : decide ((j : Int) < -1) = false := by rw [decide_eq_false_iff_not]; omega
  have g5 : decide ((nq : Int) ≤ (j : Int)) = false := by simp; omega
  have g2n : decide (ns ≤ k) = false := by rw [decide_eq_false_iff_not]; omega
  have g5n : decide (nq ≤ j) = false := by rw [decide_eq_false_iff_not]; omega
  have g6 : decide ((0 : Int) ≤ (j : Int)) = true := by simp
  go_enter Try.func18, Try.ntmps18
  go_wp2_with fail
  refine (H0 _ ?_).mono ?_
  · repeat' (first | exact Gr.refl _ | exact Nat.le_refl _ | exact Nat.le_add_right _ _ | refine Gr.setCell ?_ ?_ _ | refine Gr.alloc ?_ _ | refine Gr.drew ?_ | refine Gr.trans ?_ (by assumption) | omega | (dsimp only; omega))
  rintro e w1 ⟨rfl, hg⟩
  have hg1 := ((((Gr.refl w).alloc _).alloc _).alloc _).trans hg
  have m0 := hg1.keep t0
  have m1 := hg1.keep t1
  have m2 := hg1.keep t2
  have n0 := hg1.keep q0
  have n1 := hg1.keep q1
  have n2 := hg1.keep q2
  have n3 := hg1.keep q3
  have p0 : w1.cell? ⟨w.heap.size + 1, 0, none⟩ = some (.int .i64 k) := hg.keep (by go_simp)
  have p1 : w1.cell? ⟨w.heap.size + 1, 1, none⟩ = some (.int .i64 j) := hg.keep (by go_simp)
  have r0 : w1.cell? ⟨w.heap.size, 0, none⟩ = some (.slice oa x.l.length c) := hg.keep (by go_simp)
  have r1 : w1.cell? ⟨w.heap.size, 1, none⟩ = some (.complex .f64 A B) := hg.keep (by go_simp)
  have r2 : w1.cell? ⟨w.heap.size, 2, none⟩ = some (.int .i64 x.rows) := hg.keep (by go_simp)
  have k0 : w1.cell? ⟨w.heap.size + 1 + 1, 0, none⟩ = some (.slice none 0 0) := hg.keep (by go_simp)
  have k1 : w1.cell? ⟨w.heap.size + 1 + 1, 1, none⟩ = some (.complex .f64 0 0) := hg.keep (by go_simp)
  have k2 : w1.cell? ⟨w.heap.size + 1 + 1, 2, none⟩ = some (.int .i64 0) := hg.keep (by go_simp)
  have f0 : w1.frozen? ⟨w.heap.size + 1 + 1, 0, none⟩ = false := by rw [Gr.frees hg _ _ (by go_simp)]; go_simp
  have f1 : w1.frozen? ⟨w.heap.size + 1 + 1, 1, none⟩ = false := by rw [Gr.frees hg _ _ (by go_simp)]; go_simp
  have f2 : w1.frozen? ⟨w.heap.size + 1 + 1, 2, none⟩ = false := by rw [Gr.frees hg _ _ (by go_simp)]; go_simp
  have z0 := lt_of_cell m0
  have z1 := lt_of_cell n0
  have z2 := lt_of_cell p0
  have z3 := lt_of_cell r0
  have z4 := lt_of_cell k0
  clear t0 t1 t2 q0 q1 q2 q3 H0
  go_upto_region 4 with (fail)
  obtain ⟨Z, hZ⟩ : ∃ Z : World, Z = w1.alloc (.cells #[.int .i64 t.rows, .int .i64 t.pages, .slice t.oi t.ix.length t.ci] 26) := ⟨_, rfl⟩
  have gZ : Gr w1 Z := by rw [hZ]; exact (Gr.refl _).alloc _
  have s0 : Z.cell? ⟨w1.heap.size, 0, none⟩ = some (.int .i64 t.rows) := by rw [hZ]; go_simp
  have s1 : Z.cell? ⟨w1.heap.size, 1, none⟩ = some (.int .i64 t.pages) := by rw [hZ]; go_simp
  have s2 : Z.cell? ⟨w1.heap.size, 2, none⟩ = some (.slice t.oi t.ix.length t.ci) := by rw [hZ]; go_simp
  rw [← hZ]
  have z5 := lt_of_cell s0
  clear hZ
  have f0 := Gr.keepF gZ z4 f0
  have f1 := Gr.keepF gZ z4 f1
  have f2 := Gr.keepF gZ z4 f2
  have z7 : w.heap.size + 1 + 1 < Z.heap.size := lt_of_cell (gZ.keep k0)
  generalize w1.heap.size = B4 at *
  go_cut [11, 12] from 49 to 107 (fun s11 s12 wx => s11 = .complex .f64 C0 D0 ∧ s12 = .int .i64 t.rows ∧ Gr Z wx)
  case first =>
    go_region_with (go_at_call 7; refine (S _).mono ?_; rintro e w' ⟨rfl, hg⟩; have hc := Gr.cells hg; have hf := Gr.frees hg; have hz := Gr.size hg; try simp only [World.size_drew] at hz; try (have : B4 < w'.heap.size := by omega); have ss0 := ((Gr.refl Z).drew.trans hg).keep s0)
    all_goals
      go_wp2_with fail
      go_meet
      refine ⟨rfl, rfl, ?_⟩
      repeat' (first | exact Gr.refl _ | exact Nat.le_refl _ | exact Nat.le_add_right _ _ | refine Gr.setCell ?_ ?_ _ | refine Gr.alloc ?_ _ | refine Gr.drew ?_ | refine Gr.trans ?_ (by assumption) | omega | (dsimp only; omega))
  case rest =>
    obtain ⟨rfl, rfl, hgr⟩ := hcut
    have hgW := gZ.trans hgr
    have m0 := hgW.keep m0
    have m1 := hgW.keep m1
    have m2 := hgW.keep m2
    have n0 := hgW.keep n0
    have n1 := hgW.keep n1
    have n2 := hgW.keep n2
    have n3 := hgW.keep n3
    have p0 := hgW.keep p0
    have p1 := hgW.keep p1
    have r0 := hgW.keep r0
    have r1 := hgW.keep r1
    have r2 := hgW.keep r2
    have k0 := hgW.keep k0
    have k1 := hgW.keep k1
    have k2 := hgW.keep k2
    have s0 := hgr.keep s0
    have s1 := hgr.keep s1
    have s2 := hgr.keep s2
    have hg1 := hg1.trans hgW
    have f0 := Gr.keepF hgr z7 f0
    have f1 := Gr.keepF hgr z7 f1
    have f2 := Gr.keepF hgr z7 f2
    have z0 := lt_of_cell m0
    have z1 := lt_of_cell n0
    have z2 := lt_of_cell p0
    have z3 := lt_of_cell r0
    have z4 := lt_of_cell k0
    have z5 := lt_of_cell s0
    clear hgr hgW gZ hg S
    have P := HP.out
    go_wp2_with fail
    refine (P _ ?_).mono ?_
    · repeat' (first | exact Gr.refl _ | exact Nat.le_refl _ | exact Nat.le_add_right _ _ | refine Gr.setCell ?_ ?_ _ | refine Gr.alloc ?_ _ | refine Gr.drew ?_ | refine Gr.trans ?_ (by assumption) | omega | (dsimp only; omega))
    rintro e w2 ⟨rfl, hg⟩
    have hg2 := ((hg1.alloc (.cells #[.int .i64 q.t, .int .i64 q.c, .int .i64 q.f, .int .i64 q.g] 33))).trans hg
    have hgq := ((Gr.refl wc).alloc (.cells #[.int .i64 q.t, .int .i64 q.c, .int .i64 q.f, .int .i64 q.g] 33)).trans hg
    have v0 : w2.cell? ⟨wc.heap.size, 0, none⟩ = some (.int .i64 q.t) := hg.keep (by go_simp)
    have v1 : w2.cell? ⟨wc.heap.size, 1, none⟩ = some (.int .i64 q.c) := hg.keep (by go_simp)
    have v2 : w2.cell? ⟨wc.heap.size, 2, none⟩ = some (.int .i64 q.f) := hg.keep (by go_simp)
    have z6 := lt_of_cell v0
    have m0 := Gr.keep hgq m0
    have m1 := Gr.keep hgq m1
    have m2 := Gr.keep hgq m2
    have n0 := Gr.keep hgq n0
    have n1 := Gr.keep hgq n1
    have n2 := Gr.keep hgq n2
    have n3 := Gr.keep hgq n3
    have p0 := Gr.keep hgq p0
    have p1 := Gr.keep hgq p1
    have r0 := Gr.keep hgq r0
    have r1 := Gr.keep hgq r1
    have r2 := Gr.keep hgq r2
    have k0 := Gr.keep hgq k0
    have k1 := Gr.keep hgq k1
    have k2 := Gr.keep hgq k2
    have s0 := Gr.keep hgq s0
    have s1 := Gr.keep hgq s1
    have s2 := Gr.keep hgq s2
    have f0 := Gr.keepF hgq z4 f0
    have f1 := Gr.keepF hgq z4 f1
    have f2 := Gr.keepF hgq z4 f2
    clear z0 z1 z2 z3 z4 z5
    have z0 := lt_of_cell m0
    have z1 := lt_of_cell n0
    have z2 := lt_of_cell p0
    have z3 := lt_of_cell r0
    have z4 := lt_of_cell k0
    have z5 := lt_of_cell s0
    generalize wc.heap.size = B5 at *
    clear hg hgq P hg1
    by_cases h2 : q.f = -1
    · have e2 : (q.f != -1) = false := by simp [h2]
      clear h2
      go_upto_region 11 with (fail)
      clear m0 m1 m2 n0 n1 n2 n3 s0 s1 s2 v0 v1 v2
      refine Rg.region_app (W := w2) 16 [] 5 [2, 4] [(2, G2 w2.heap.size x.l), (4, G4 ((k : Int), (j : Int))), (5, G5 w2.heap.size x.l ((k : Int), (j : Int)))] [2, 4, 5]
        [some (.pointer (some ⟨w.heap.size, 0, none⟩)), some (.slice oa x.l.length c), none, some (.agg #[.int .i64 (k : Int), .int .i64 (j : Int)]), none, none,
         some (.pointer (some ⟨w.heap.size, 1, none⟩)), some (.complex .f64 A B), some (.pointer (some ⟨w.heap.size, 2, none⟩)), some (.int .i64 x.rows), some (.complex .f64 C1 D1), some (.complex .f64 LA LB),
         some (.pointer (some ⟨w.heap.size, 2, none⟩)), some (.int .i64 x.rows), some (.int .i64 r), some (.int .i64 TT)]
        (Below.drew (Below.refl _ _)) (by kernel_rfl) (by kernel_rfl) ⟨rfl, rfl, rfl, trivial⟩ (g_keep _ _ _) (fun _ _ d _ _ h => by cases d <;> exact h) (by decide) ?_
      intro v
      simp only [List.take_succ_cons, List.take_zero, Rg.wpA, Option.getD_some, Option.getD_none, Act.put, List.setIfInBounds_toArray, List.set_cons_zero, List.set_cons_succ]
      refine ⟨?_, ?_, ?_, ?_, ?_, ?_, ?_, ?_, ?_, ?_, ?_, ?_, ?_, ?_, ?_, ?_, ?_⟩
      all_goals first
        | (refine sa_det (by rfl) (by rfl) (fun w' hS => ?_)
           have hc := Gr.cells hS
           have hf := Gr.frees hS
           go_simp
           first
           | exact Below.refl _ _
           | (refine ⟨?_, Below.refl _ _⟩; with_reducible rfl)
           | ((with_reducible refine (HL.out _).mono ?_); rintro e w' ⟨rfl, rfl⟩; refine ⟨?_, Below.refl _ _⟩; with_reducible rfl)
           | ((with_reducible refine (HT.out _).mono ?_); rintro e w' ⟨rfl, rfl⟩; refine ⟨?_, Below.refl _ _⟩; with_reducible rfl))
        | (refine sa_free (by rfl) (by rfl) (by rfl) (fun w' hS => ?_)
           have hgr := Gr.trans hg2 hS
           have hc := Gr.cells hS
           have hf := Gr.frees hS
           go_simp
           first
           | ((with_reducible refine (HCl.out _ ?_).mono ?_)
              · exact hgr
              rintro e w'' ⟨u, rfl, hown, hg⟩
              exact ⟨u, rfl, own_mono hown (Gr.size hS), hg⟩)
           | exact ⟨⟨_, rfl, by go_simp, by go_simp⟩, (Gr.refl _).alloc _⟩)
        | (refine sa_append (.tmp 93) (.tmp 95) (v 2) (v 4) (by rfl) (by rfl) (by rfl) (by rfl) (by rfl) (by rfl) (fun w' hS hF => ?_)
           obtain ⟨h2, h4, -⟩ := hF
           exact app_step hS hl h2 h4 _)
        | skip
      intro w6 hK
      have hup : Gr w2 w6 := hK.up
      have h5 : G5 w2.heap.size x.l ((k : Int), (j : Int)) (v 5) w6 := hK.fact 5 (by decide) rfl rfl (.inr rfl)
      generalize v 5 = v5 at *
      clear hK
      generalize v 2 = v2 at *
      generalize v 4 = v4 at *
      have hgw : Gr w w6 := Gr.trans hg2 hup
      have b8 : w.heap.size + 1 + 1 < w2.heap.size := z4
      have kk0 := Gr.keep hup k0
      have kk1 := Gr.keep hup k1
      have kk2 := Gr.keep hup k2
      have ff0 := Gr.keepF hup z4 f0
      have ff1 := Gr.keepF hup z4 f1
      have ff2 := Gr.keepF hup z4 f2
      have z9 : w.heap.size + 1 + 1 < w6.heap.size := lt_of_cell kk0
      have HB := hid b8
      have HX := hid hg2
      generalize w2.heap.size = XS at *
      unfold G5 at h5
      have hlen : (x.l ++ [((k : Int), (j : Int))]).length = x.l.length + 1 := by simp
      rw [← hlen] at h5
      generalize x.l ++ [((k : Int), (j : Int))] = PL at *
      obtain ⟨oa', c', rfl, hle, -, -⟩ := own_form h5
      clear hlen
      have HO := hid h5
      clear h5 hup
      go_wp2
      refine bodyPost_ret (v := .tuple #[.agg #[.slice oa' PL.length c', .complex .f64 LA LB, .int .i64 TT], .bool true]) (by simp [results, Try.results18, go_sem, run_store_complex, *]; try rfl) rfl ?_
      have h6 := HO.out
      obtain ⟨oa2, c2, e2, hle2, hp2, hf2⟩ := own_form (own_set (own_set (own_set h6 (a := ⟨w.heap.size + 1 + 1, 0, none⟩) HB.out (.slice oa' PL.length c')) (a := ⟨w.heap.size + 1 + 1, 1, none⟩) HB.out (.complex .f64 LA LB)) (a := ⟨w.heap.size + 1 + 1, 2, none⟩) HB.out (.int .i64 TT))
      cases e2
      refine ⟨_, _, rfl, hle, hp2, ?_, ?_⟩
      · intro g o q e
        obtain ⟨h7, h8⟩ := hf2 g o q e
        have := HB.out
        exact ⟨by omega, h8⟩
      · repeat' (first | exact Gr.refl _ | exact Nat.le_refl _ | exact Nat.le_add_right _ _ | refine Gr.setCell ?_ ?_ _ | refine Gr.alloc ?_ _ | refine Gr.drew ?_ | refine Gr.trans ?_ (by assumption) | omega | (dsimp only; omega))
    · have e2 : (q.f != -1) = true := by simp [h2]
      have hb : hasP q.f x.l = true := HF.out.resolve_left h2
      have H1 := HH.out q.f
      rw [hb] at H1
      clear h2 hb
      go_wp2_with fail
      refine (H1 _ ?_).mono ?_
      · repeat' (first | exact Gr.refl _ | exact Nat.le_refl _ | exact Nat.le_add_right _ _ | refine Gr.setCell ?_ ?_ _ | refine Gr.alloc ?_ _ | refine Gr.drew ?_ | refine Gr.trans ?_ (by assumption) | omega | (dsimp only; omega))
      rintro e w3 ⟨rfl, hg⟩
      have hg3 := hg2.trans hg
      have m0 := Gr.keep hg m0
      have m1 := Gr.keep hg m1
      have m2 := Gr.keep hg m2
      have n0 := Gr.keep hg n0
      have n1 := Gr.keep hg n1
      have n2 := Gr.keep hg n2
      have n3 := Gr.keep hg n3
      have p0 := Gr.keep hg p0
      have p1 := Gr.keep hg p1
      have r0 := Gr.keep hg r0
      have r1 := Gr.keep hg r1
      have r2 := Gr.keep hg r2
      have k0 := Gr.keep hg k0
      have k1 := Gr.keep hg k1
      have k2 := Gr.keep hg k2
      have s0 := Gr.keep hg s0
      have s1 := Gr.keep hg s1
      have s2 := Gr.keep hg s2
      have v0 := Gr.keep hg v0
      have v1 := Gr.keep hg v1
      have v2 := Gr.keep hg v2
      have f0 := Gr.keepF hg z4 f0
      have f1 := Gr.keepF hg z4 f1
      have f2 := Gr.keepF hg z4 f2
      clear z0 z1 z2 z3 z4 z5
      have z0 := lt_of_cell m0
      have z1 := lt_of_cell n0
      have z2 := lt_of_cell p0
      have z3 := lt_of_cell r0
      have z4 := lt_of_cell k0
      have z5 := lt_of_cell s0
      clear hg hg2
      go_upto_region 11 with (fail)
      clear m0 m1 m2 n0 n1 n2 n3 s0 s1 s2 v0 v1 v2
      refine Rg.region_app (W := w3) 16 [] 5 [2, 4] [(2, G2 w3.heap.size x.l), (4, G4 ((k : Int), (j : Int))), (5, G5 w3.heap.size x.l ((k : Int), (j : Int)))] [2, 4, 5]
        [some (.pointer (some ⟨w.heap.size, 0, none⟩)), some (.slice oa x.l.length c), none, some (.agg #[.int .i64 (k : Int), .int .i64 (j : Int)]), none, none,
         some (.pointer (some ⟨w.heap.size, 1, none⟩)), some (.complex .f64 A B), some (.pointer (some ⟨w.heap.size, 2, none⟩)), some (.int .i64 x.rows), some (.complex .f64 C1 D1), some (.complex .f64 LA LB),
         some (.pointer (some ⟨w.heap.size, 2, none⟩)), some (.int .i64 x.rows), some (.int .i64 r), some (.int .i64 TT)]
        (Below.drew (Below.refl _ _)) (by kernel_rfl) (by kernel_rfl) ⟨rfl, rfl, rfl, trivial⟩ (g_keep _ _ _) (fun _ _ d _ _ h => by cases d <;> exact h) (by decide) ?_
      intro v
      simp only [List.take_succ_cons, List.take_zero, Rg.wpA, Option.getD_some, Option.getD_none, Act.put, List.setIfInBounds_toArray, List.set_cons_zero, List.set_cons_succ]
      refine ⟨?_, ?_, ?_, ?_, ?_, ?_, ?_, ?_, ?_, ?_, ?_, ?_, ?_, ?_, ?_, ?_, ?_⟩
      all_goals first
        | (refine sa_det (by rfl) (by rfl) (fun w' hS => ?_)
           have hc := Gr.cells hS
           have hf := Gr.frees hS
           go_simp
           first
           | exact Below.refl _ _
           | (refine ⟨?_, Below.refl _ _⟩; with_reducible rfl)
           | ((with_reducible refine (HL.out _).mono ?_); rintro e w' ⟨rfl, rfl⟩; refine ⟨?_, Below.refl _ _⟩; with_reducible rfl)
           | ((with_reducible refine (HT.out _).mono ?_); rintro e w' ⟨rfl, rfl⟩; refine ⟨?_, Below.refl _ _⟩; with_reducible rfl))
        | (refine sa_free (by rfl) (by rfl) (by rfl) (fun w' hS => ?_)
           have hgr := Gr.trans hg3 hS
           have hc := Gr.cells hS
           have hf := Gr.frees hS
           go_simp
           first
           | ((with_reducible refine (HCl.out _ ?_).mono ?_)
              · exact hgr
              rintro e w'' ⟨u, rfl, hown, hg⟩
              exact ⟨u, rfl, own_mono hown (Gr.size hS), hg⟩)
           | exact ⟨⟨_, rfl, by go_simp, by go_simp⟩, (Gr.refl _).alloc _⟩)
        | (refine sa_append (.tmp 93) (.tmp 95) (v 2) (v 4) (by rfl) (by rfl) (by rfl) (by rfl) (by rfl) (by rfl) (fun w' hS hF => ?_)
           obtain ⟨h2, h4, -⟩ := hF
           exact app_step hS hl h2 h4 _)
        | skip
      intro w6 hK
      have hup : Gr w3 w6 := hK.up
      have h5 : G5 w3.heap.size x.l ((k : Int), (j : Int)) (v 5) w6 := hK.fact 5 (by decide) rfl rfl (.inr rfl)
      generalize v 5 = v5 at *
      clear hK
      generalize v 2 = v2 at *
      generalize v 4 = v4 at *
      have hgw : Gr w w6 := Gr.trans hg3 hup
      have b8 : w.heap.size + 1 + 1 < w3.heap.size := z4
      have kk0 := Gr.keep hup k0
      have kk1 := Gr.keep hup k1
      have kk2 := Gr.keep hup k2
      have ff0 := Gr.keepF hup z4 f0
      have ff1 := Gr.keepF hup z4 f1
      have ff2 := Gr.keepF hup z4 f2
      have z9 : w.heap.size + 1 + 1 < w6.heap.size := lt_of_cell kk0
      have HB := hid b8
      have HX := hid hg3
      generalize w3.heap.size = XS at *
      unfold G5 at h5
      have hlen : (x.l ++ [((k : Int), (j : Int))]).length = x.l.length + 1 := by simp
      rw [← hlen] at h5
      generalize x.l ++ [((k : Int), (j : Int))] = PL at *
      obtain ⟨oa', c', rfl, hle, -, -⟩ := own_form h5
      clear hlen
      have HO := hid h5
      clear h5 hup
      go_wp2
      refine bodyPost_ret (v := .tuple #[.agg #[.slice oa' PL.length c', .complex .f64 LA LB, .int .i64 TT], .bool true]) (by simp [results, Try.results18, go_sem, run_store_complex, *]; try rfl) rfl ?_
      have h6 := HO.out
      obtain ⟨oa2, c2, e2, hle2, hp2, hf2⟩ := own_form (own_set (own_set (own_set h6 (a := ⟨w.heap.size + 1 + 1, 0, none⟩) HB.out (.slice oa' PL.length c')) (a := ⟨w.heap.size + 1 + 1, 1, none⟩) HB.out (.complex .f64 LA LB)) (a := ⟨w.heap.size + 1 + 1, 2, none⟩) HB.out (.int .i64 TT))
      cases e2
      refine ⟨_, _, rfl, hle, hp2, ?_, ?_⟩
      · intro g o q e
        obtain ⟨h7, h8⟩ := hf2 g o q e
        have := HB.out
        exact ⟨by omega, h8⟩
      · repeat' (first | exact Gr.refl _ | exact Nat.le_refl _ | exact Nat.le_add_right _ _ | refine Gr.setCell ?_ ?_ _ | refine Gr.alloc ?_ _ | refine Gr.drew ?_ | refine Gr.trans ?_ (by assumption) | omega | (dsimp only; omega))
end Go.Proofs.Ytemhfaknmagebaa
