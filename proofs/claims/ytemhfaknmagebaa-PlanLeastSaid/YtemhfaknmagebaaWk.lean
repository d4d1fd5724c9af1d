/- plan: the walk through all plans: what it needs, and its ends. -/
import Derived.Test.YtemhfaknmagebaaH8
import Derived.Test.YtemhfaknmagebaaH9
namespace Go.Proofs.Ytemhfaknmagebaa
open Go.RowKit
set_option linter.unusedSimpArgs false
set_option linter.unusedVariables false
attribute [local go_sem] run_store_complex
/-- all but block g stand -/
def Gx (g : Nat) (w w' : World) : Prop := w.grownBy w' (some g)
theorem Gx.of {g : Nat} {w w' : World} (h : Gr w w') : Gx g w w' := ⟨h.os, h.tape, h.output, h.size, fun k hk _ => h.block k hk⟩
theorem Gx.refl (g : Nat) (w : World) : Gx g w w := .of (Gr.refl w)
theorem Gx.trans {g : Nat} {a b c : World} (h : Gx g a b) (k : Gx g b c) : Gx g a c :=
  ⟨k.os.trans h.os, k.tape.trans h.tape, k.output.trans h.output, Nat.le_trans h.size k.size, fun i hi hne => (k.block i (Nat.lt_of_lt_of_le hi h.size) hne).trans (h.block i hi hne)⟩
theorem Gx.gr {g : Nat} {a b c : World} (h : Gx g a b) (k : Gr b c) : Gx g a c := h.trans (.of k)
theorem Gx.set {g : Nat} {a w : World} (h : Gx g a w) (k : Nat) (u : Value) : Gx g a (w.setCell ⟨g, k, none⟩ u) := h.trans (grown_set w ⟨g, k, none⟩ u)
theorem Gx.keep {g b k : Nat} {w w' : World} {v : Value} (h : Gx g w w') (hb : b ≠ g) (hc : w.cell? ⟨b, k, none⟩ = some v) : w'.cell? ⟨b, k, none⟩ = some v :=
  World.grownBy.cell h hc (by simpa using hb)
def PFar (g : Nat) (oa : Option Addr) : Prop := ∀ b o q, oa = some ⟨b, o, q⟩ → b ≠ g
theorem PAt.gx {g : Nat} {w w' : World} {oa : Option Addr} {l : List (Int × Int)} (h : PAt w oa l) (hf : PFar g oa) (hg : Gx g w w') : PAt w' oa l := by
  rcases h with h | ⟨b, off, e, h1, h2⟩
  · exact .inl h
  · have hb := hf _ _ _ e
    exact .inr ⟨b, off, e, Nat.lt_of_lt_of_le h1 hg.size, fun k hk => ⟨hg.keep hb (h2 k hk).1, hg.keep hb (h2 k hk).2⟩⟩
/-- a plan that is handed in -/
structure Xv (g : Nat) (x : St) (oa : Option Addr) (c : Nat) (w : World) : Prop where
  p : PAt w oa x.l
  far : PFar g oa
  len : x.l.length ≤ c
  sm : Sm x
  rows : x.rows ≤ 9223372036854775807
  n : x.l.length ≤ 1000000
theorem Xv.gx {g : Nat} {x : St} {oa : Option Addr} {c : Nat} {w w' : World} (h : Xv g x oa c w) (hg : Gx g w w') : Xv g x oa c w' := ⟨h.p.gx h.far hg, h.far, h.len, h.sm, h.rows, h.n⟩
theorem Xv.gr {g : Nat} {x : St} {oa : Option Addr} {c : Nat} {w w' : World} (h : Xv g x oa c w) (hg : Gr w w') : Xv g x oa c w' := h.gx (.of hg)
/-- the closure's surroundings; the best plan so far -/
structure Wv (W0 : World) (os oq : Option Addr) (cs cq : Nat) (stats : List Tb) (preds : List Pr) (gB gS gP gW : Nat) (b : St) (w : World) : Prop where
  base : Gr W0 w
  nb : W0.heap.size ≤ gB
  ns : gS ≠ gB
  np : gP ≠ gB
  nw : gW ≠ gB
  cS : w.cell? ⟨gS, 0, none⟩ = some (.slice os stats.length cs)
  cP : w.cell? ⟨gP, 0, none⟩ = some (.slice oq preds.length cq)
  cW : w.cell? ⟨gW, 0, none⟩ = some (.func (.func 12) #[] #[.pointer (some ⟨gB, 0, none⟩), .pointer (some ⟨gS, 0, none⟩), .pointer (some ⟨gP, 0, none⟩), .pointer (some ⟨gW, 0, none⟩)])
  best : ∃ ob cb, w.cell? ⟨gB, 0, none⟩ = some (.slice ob b.l.length cb) ∧ w.cell? ⟨gB, 1, none⟩ = some (.complex .f64 (Fl.fw b.a) (Fl.fw b.b)) ∧ w.cell? ⟨gB, 2, none⟩ = some (.int .i64 b.rows) ∧ Xv gB b ob cb w
  f0 : w.frozen? ⟨gB, 0, none⟩ = false
  f1 : w.frozen? ⟨gB, 1, none⟩ = false
  f2 : w.frozen? ⟨gB, 2, none⟩ = false
section
variable {W0 : World} {os oq : Option Addr} {cs cq : Nat} {stats : List Tb} {preds : List Pr} {gB gS gP gW : Nat}
theorem Wv.gr {b : St} {w w' : World} (h : Wv W0 os oq cs cq stats preds gB gS gP gW b w) (hg : Gr w w') : Wv W0 os oq cs cq stats preds gB gS gP gW b w' := by
  obtain ⟨ob, cb, c0, c1, c2, hx⟩ := h.best
  have hl := lt_of_cell c0
  exact ⟨h.base.trans hg, h.nb, h.ns, h.np, h.nw, hg.keep h.cS, hg.keep h.cP, hg.keep h.cW, ⟨ob, cb, hg.keep c0, hg.keep c1, hg.keep c2, hx.gr hg⟩, Gr.keepF hg hl h.f0, Gr.keepF hg hl h.f1, Gr.keepF hg hl h.f2⟩
/-- a new best plan -/
theorem Wv.put {b x : St} {w : World} {oa : Option Addr} {c : Nat} (h : Wv W0 os oq cs cq stats preds gB gS gP gW b w) (hx : Xv gB x oa c w) :
    Wv W0 os oq cs cq stats preds gB gS gP gW x (((w.setCell ⟨gB, 0, none⟩ (.slice oa x.l.length c)).setCell ⟨gB, 1, none⟩ (.complex .f64 (Fl.fw x.a) (Fl.fw x.b))).setCell ⟨gB, 2, none⟩ (.int .i64 x.rows)) := by
  obtain ⟨ob, cb, c0, c1, c2, hb⟩ := h.best
  have hl := lt_of_cell c0
  have f0 := h.f0
  have f1 := h.f1
  have f2 := h.f2
  have hg : Gx gB w (((w.setCell ⟨gB, 0, none⟩ (.slice oa x.l.length c)).setCell ⟨gB, 1, none⟩ (.complex .f64 (Fl.fw x.a) (Fl.fw x.b))).setCell ⟨gB, 2, none⟩ (.int .i64 x.rows)) := (((Gx.refl _ _).set _ _).set _ _).set _ _
  refine ⟨((h.base.setCell h.nb _).setCell h.nb _).setCell h.nb _, h.nb, h.ns, h.np, h.nw, hg.keep h.ns h.cS, hg.keep h.np h.cP, hg.keep h.nw h.cW, ⟨oa, c, ?_, ?_, ?_, hx.gx hg⟩, ?_, ?_, ?_⟩
  all_goals go_simp
end
def WalkP (W0 : World) (os oq : Option Addr) (cs cq : Nat) (stats : List Tb) (preds : List Pr) (gB gS gP gW : Nat) (w : World) (B : St) (e : Ending) (w' : World) : Prop :=
  e = .returned (.tuple #[]) ∧ Gx gB w w' ∧ Wv W0 os oq cs cq stats preds gB gS gP gW B w'
theorem ord_same {a b : Nat} (ha : a ≤ 9007199254740992) (hb : b ≤ 9007199254740992) : (FloatKind.f64.format.order (Fl.fw a) (Fl.fw b) == some .eq) = decide (a = b) := by
  rcases Nat.lt_trichotomy a b with h | h | h
  · rw [ord_lt ha hb h]; simp; omega
  · subst h; rw [ord_eq ha]; simp
  · rw [ord_gt ha hb h]; simp; omega
set_option maxHeartbeats 4000000 in
set_option maxRecDepth 100000 in
/-- cut off -/
theorem walk_cut {W0 : World} {os oq : Option Addr} {cs cq : Nat} {stats : List Tb} {preds : List Pr} {gB gS gP gW : Nat} (x b : St) (oa : Option Addr) (c : Nat) (w : World)
    (hv : Wv W0 os oq cs cq stats preds gB gS gP gW b w) (hx : Xv gB x oa c w) (hb : b.l ≠ []) (hless : lessS b x = true) :
    Calls Try.prog 12 #[x.val oa c, .pointer (some ⟨gB, 0, none⟩), .pointer (some ⟨gS, 0, none⟩), .pointer (some ⟨gP, 0, none⟩), .pointer (some ⟨gW, 0, none⟩)] w (WalkP W0 os oq cs cq stats preds gB gS gP gW w b) := by
  obtain ⟨ob, cb, c0, c1, c2, hbv⟩ := hv.best
  have L := fun W => less_any b.a b.b x.a x.b W hbv.sm.1 hbv.sm.2 hx.sm.1 hx.sm.2
  have el : lessB b.a b.b x.a x.b = true := hless
  rw [el] at L
  have hl := lt_of_cell c0
  have hl1 : gB < w.heap.size + 1 := by omega
  have hlen : 0 < b.l.length := by cases h : b.l with | nil => exact absurd h hb | cons => simp
  unfold St.val
  have HV := hid hv
  generalize Fl.fw x.a = XA at *
  generalize Fl.fw x.b = XB at *
  generalize b.l.length = nb at *
  clear hv hx hbv hb
  go_enter Try.func12, Try.ntmps12
  go_wp2_with fail
  refine (L _).mono ?_
  rintro e w' ⟨rfl, rfl⟩
  go_wp2
  refine bodyPost_ret (v := .tuple #[]) (by simp [results, Try.results12, go_sem]) rfl ⟨rfl, ?_, ?_⟩
  · exact .of ((Gr.refl w).alloc _)
  · exact HV.out.gr ((Gr.refl w).alloc _)
set_option maxHeartbeats 4000000 in
set_option maxRecDepth 100000 in
/-- a full plan -/
theorem walk_full {W0 : World} {os oq : Option Addr} {cs cq : Nat} {stats : List Tb} {preds : List Pr} {gB gS gP gW : Nat} (x b : St) (oa : Option Addr) (c : Nat) (w : World)
    (hv : Wv W0 os oq cs cq stats preds gB gS gP gW b w) (hx : Xv gB x oa c w) (hcut : ¬ (!b.l.isEmpty && lessS b x) = true) (hn : x.l.length = stats.length) :
    Calls Try.prog 12 #[x.val oa c, .pointer (some ⟨gB, 0, none⟩), .pointer (some ⟨gS, 0, none⟩), .pointer (some ⟨gP, 0, none⟩), .pointer (some ⟨gW, 0, none⟩)] w (WalkP W0 os oq cs cq stats preds gB gS gP gW w (if winsR aheadR x b = true then x else b)) := by
  obtain ⟨ob, cb, c0, c1, c2, hbv⟩ := hv.best
  have cS := hv.cS
  have f0 := hv.f0
  have f1 := hv.f1
  have f2 := hv.f2
  have L := fun W => less_any b.a b.b x.a x.b W hbv.sm.1 hbv.sm.2 hx.sm.1 hx.sm.2
  have L2 := fun W => less_any x.a x.b b.a b.b W hx.sm.1 hx.sm.2 hbv.sm.1 hbv.sm.2
  have E1 := ord_same hx.sm.1 hbv.sm.1
  have E2 := ord_same hx.sm.2 hbv.sm.2
  have A := fun W hW => xahead_any oa ob c cb x.l b.l W hx.n hbv.n (hx.p.keep hW) (hbv.p.keep hW)
  have hW : Hid (winsR aheadR x b = (b.l.isEmpty || (lessB x.a x.b b.a b.b || ((decide (x.a = b.a) && decide (x.b = b.b)) && aheadR x.l b.l)))) := hid rfl
  have hl := lt_of_cell c0
  have hl1 : gB < w.heap.size + 1 := by omega
  have hs := lt_of_cell cS
  have hs1 : gS < w.heap.size + 1 := by omega
  have HV := hid hv
  have HX := hid hx
  have hne : gB ≠ w.heap.size := by omega
  have P := fun (w' : World) (h : Gr w w') => Wv.put (hv.gr h) (hx.gr h)
  rw [hn] at P
  have HP := hid P
  unfold St.val
  by_cases hb : b.l = []
  · have e : winsR aheadR x b = true := by rw [hW.out, hb]; rfl
    rw [e, if_pos rfl]
    have hlen : b.l.length = 0 := by rw [hb]; rfl
    rw [hlen] at c0
    generalize Fl.fw x.a = XA at *
    generalize Fl.fw x.b = XB at *
    generalize Fl.fw b.a = BA at *
    generalize Fl.fw b.b = BB at *
    generalize stats.length = ns at *
    clear hv hx hbv hb hlen L L2 E1 E2 A hW P hcut
    go_enter Try.func12, Try.ntmps12
    go_wp2
    refine bodyPost_ret (v := .tuple #[]) (by simp [results, Try.results12, go_sem]) rfl ⟨rfl, ?_, ?_⟩
    · exact ((((Gx.refl _ _).set _ _).set _ _).set _ _).gr ((Gr.refl _).alloc _)
    · exact (HP.out w (Gr.refl w)).gr ((Gr.refl _).alloc _)
  · have hl0 : lessS b x = false := by
      cases h : lessS b x
      · rfl
      · exact absurd (by simp [hb, h]) hcut
    have el : lessB b.a b.b x.a x.b = false := hl0
    rw [el] at L
    have hlen : 0 < b.l.length := by cases h : b.l with | nil => exact absurd h hb | cons => simp
    have hlen2 : ¬ b.l.length = 0 := by omega
    have hem : b.l.isEmpty = false := by simp [hb]
    rw [hem, Bool.false_or] at hW
    rw [hn] at A
    obtain ⟨l2, hl2⟩ : ∃ v, lessB x.a x.b b.a b.b = v := ⟨_, rfl⟩
    obtain ⟨ea, hea⟩ : ∃ v, decide (x.a = b.a) = v := ⟨_, rfl⟩
    obtain ⟨eb, heb⟩ : ∃ v, decide (x.b = b.b) = v := ⟨_, rfl⟩
    obtain ⟨av, hav⟩ : ∃ v, aheadR x.l b.l = v := ⟨_, rfl⟩
    rw [hl2] at L2 hW
    rw [hea] at E1 hW
    rw [heb] at E2 hW
    rw [hav] at A hW
    clear hl2 hea heb hav
    generalize winsR aheadR x b = wn at *
    generalize Fl.fw x.a = XA at *
    generalize Fl.fw x.b = XB at *
    generalize Fl.fw b.a = BA at *
    generalize Fl.fw b.b = BB at *
    generalize stats.length = ns at *
    generalize b.l.length = nb at *
    have HA := hid A
    clear hv hx hbv hb A P hcut hl0 el hem
    cases l2
    · cases ea
      · have hw2 : wn = false := by rw [hW.out]; rfl
        subst hw2
        clear hW
        go_enter Try.func12, Try.ntmps12
        go_wp2_with fail
        refine (L _).mono ?_
        rintro e w' ⟨rfl, rfl⟩
        go_wp2_with fail
        refine (L2 _).mono ?_
        rintro e w' ⟨rfl, rfl⟩
        go_wp2
        refine bodyPost_ret (v := .tuple #[]) (by simp [results, Try.results12, go_sem]) rfl ⟨rfl, ?_, ?_⟩
        · exact .of ((Gr.refl w).alloc _)
        · exact HV.out.gr ((Gr.refl w).alloc _)
      · cases eb
        · have hw2 : wn = false := by rw [hW.out]; rfl
          subst hw2
          clear hW
          go_enter Try.func12, Try.ntmps12
          go_wp2_with fail
          refine (L _).mono ?_
          rintro e w' ⟨rfl, rfl⟩
          go_wp2_with fail
          refine (L2 _).mono ?_
          rintro e w' ⟨rfl, rfl⟩
          go_wp2
          refine bodyPost_ret (v := .tuple #[]) (by simp [results, Try.results12, go_sem]) rfl ⟨rfl, ?_, ?_⟩
          · exact .of ((Gr.refl w).alloc _)
          · exact HV.out.gr ((Gr.refl w).alloc _)
        · cases av
          · have hw2 : wn = false := by rw [hW.out]; rfl
            subst hw2
            clear hW
            go_enter Try.func12, Try.ntmps12
            go_wp2_with fail
            refine (L _).mono ?_
            rintro e w' ⟨rfl, rfl⟩
            go_wp2_with fail
            refine (L2 _).mono ?_
            rintro e w' ⟨rfl, rfl⟩
            go_wp2_with fail
            refine (HA.out _ ?_).mono ?_
            · exact (Gr.refl w).alloc _
            rintro e w1 ⟨rfl, hg⟩
            have hg1 := ((Gr.refl w).alloc (.cells #[.slice oa ns c, .complex .f64 XA XB, .int .i64 x.rows] 47)).trans hg
            go_wp2
            refine bodyPost_ret (v := .tuple #[]) (by simp [results, Try.results12, go_sem]) rfl ⟨rfl, ?_, ?_⟩
            · exact .of hg1
            · exact HV.out.gr hg1
          · have hw2 : wn = true := by rw [hW.out]; rfl
            subst hw2
            clear hW
            go_enter Try.func12, Try.ntmps12
            go_wp2_with fail
            refine (L _).mono ?_
            rintro e w' ⟨rfl, rfl⟩
            go_wp2_with fail
            refine (L2 _).mono ?_
            rintro e w' ⟨rfl, rfl⟩
            go_wp2_with fail
            refine (HA.out _ ?_).mono ?_
            · exact (Gr.refl w).alloc _
            rintro e w1 ⟨rfl, hg⟩
            have hg1 := ((Gr.refl w).alloc (.cells #[.slice oa ns c, .complex .f64 XA XB, .int .i64 x.rows] 47)).trans hg
            have x0 : w1.cell? ⟨w.heap.size, 0, none⟩ = some (.slice oa ns c) := hg.keep (by go_simp)
            have x1 : w1.cell? ⟨w.heap.size, 1, none⟩ = some (.complex .f64 XA XB) := hg.keep (by go_simp)
            have x2 : w1.cell? ⟨w.heap.size, 2, none⟩ = some (.int .i64 x.rows) := hg.keep (by go_simp)
            have c0 := hg1.keep c0
            have c1 := hg1.keep c1
            have c2 := hg1.keep c2
            have f0 := Gr.keepF hg1 hl f0
            have f1 := Gr.keepF hg1 hl f1
            have f2 := Gr.keepF hg1 hl f2
            have hl2 := lt_of_cell c0
            have hl3 := lt_of_cell x0
            go_wp2
            refine bodyPost_ret (v := .tuple #[]) (by simp [results, Try.results12, go_sem]) rfl ⟨rfl, ?_, ?_⟩
            · exact (((Gx.of hg1).set _ _).set _ _).set _ _
            · exact HP.out w1 hg1
    · have hw2 : wn = true := by rw [hW.out]; rfl
      subst hw2
      clear hW
      go_enter Try.func12, Try.ntmps12
      go_wp2_with fail
      refine (L _).mono ?_
      rintro e w' ⟨rfl, rfl⟩
      go_wp2_with fail
      refine (L2 _).mono ?_
      rintro e w' ⟨rfl, rfl⟩
      go_wp2
      refine bodyPost_ret (v := .tuple #[]) (by simp [results, Try.results12, go_sem]) rfl ⟨rfl, ?_, ?_⟩
      · exact ((((Gx.refl _ _).set _ _).set _ _).set _ _).gr ((Gr.refl _).alloc _)
      · exact (HP.out w (Gr.refl w)).gr ((Gr.refl _).alloc _)
end Go.Proofs.Ytemhfaknmagebaa
