/- plan: state.with. -/
import Derived.Test.YtemhfaknmagebaaH2
import Derived.BigRegion
import Derived.ChangeAlike
import Derived.BigQuiet
import Derived.Deep.QuietTactic
import Derived.Deep.DeepCutAuto
namespace Go.Proofs.Ytemhfaknmagebaa
open Go.RowKit
set_option linter.unusedSimpArgs false
set_option linter.unusedVariables false
theorem run_store_complex {P : Program} {w : World} {a : Addr} {m : Mode} (k : FloatKind) (x y : Nat) : (store a (.complex k x y) m).run P w = stored P w a (.complex k x y) m := run_store P w a _ m rfl
attribute [local go_sem] run_store_complex
/-- a table's numbers -/
structure Tb where
  rows : Int
  pages : Int
  oi : Option Addr
  ci : Nat
  ix : List (Int × Int)
structure Pr where
  t : Int
  c : Int
  f : Int
  g : Int
/-- a plan on its way -/
structure St where
  l : List (Int × Int)
  a : Nat
  b : Nat
  rows : Int
def St.val (x : St) (oa : Option Addr) (c : Nat) : Value := .agg #[.slice oa x.l.length c, .complex .f64 (Fl.fw x.a) (Fl.fw x.b), .int .i64 x.rows]
def SRow (w : World) (b off : Nat) (l : List Tb) : Prop := ∀ k (h : k < l.length), w.cell? ⟨b, off + k * 3, none⟩ = some (.int .i64 l[k].rows) ∧ w.cell? ⟨b, off + k * 3 + 1, none⟩ = some (.int .i64 l[k].pages) ∧ w.cell? ⟨b, off + k * 3 + 2, none⟩ = some (.slice l[k].oi l[k].ix.length l[k].ci) ∧ PAt w l[k].oi l[k].ix ∧ l[k].ix.length ≤ 1000000 ∧ l[k].rows ≤ 9223372036854775807
def QRow (w : World) (b off : Nat) (l : List Pr) : Prop := ∀ k (h : k < l.length), w.cell? ⟨b, off + k * 4, none⟩ = some (.int .i64 l[k].t) ∧ w.cell? ⟨b, off + k * 4 + 1, none⟩ = some (.int .i64 l[k].c) ∧ w.cell? ⟨b, off + k * 4 + 2, none⟩ = some (.int .i64 l[k].f) ∧ w.cell? ⟨b, off + k * 4 + 3, none⟩ = some (.int .i64 l[k].g)
theorem SRow.keep {w w' : World} {b off : Nat} {l : List Tb} (h : SRow w b off l) (hg : Gr w w') : SRow w' b off l := fun k hk =>
  ⟨hg.keep (h k hk).1, hg.keep (h k hk).2.1, hg.keep (h k hk).2.2.1, (h k hk).2.2.2.1.keep hg, (h k hk).2.2.2.2⟩
theorem QRow.keep {w w' : World} {b off : Nat} {l : List Pr} (h : QRow w b off l) (hg : Gr w w') : QRow w' b off l := fun k hk =>
  ⟨hg.keep (h k hk).1, hg.keep (h k hk).2.1, hg.keep (h k hk).2.2.1, hg.keep (h k hk).2.2.2⟩
def SAt (w : World) (oa : Option Addr) (l : List Tb) : Prop := l = [] ∨ ∃ b off, oa = some ⟨b, off, none⟩ ∧ SRow w b off l
def QAt (w : World) (oa : Option Addr) (l : List Pr) : Prop := l = [] ∨ ∃ b off, oa = some ⟨b, off, none⟩ ∧ QRow w b off l
/-- a plan with one more path -/
def addR (x : St) (p : Int × Int) (c d : Nat) (rows : Int) : St := { l := x.l ++ [p], a := min (x.a + x.rows.toNat * c) 9007199254740992, b := min (x.b + x.rows.toNat * d) 9007199254740992, rows := timesI x.rows rows }
def withIn (x : St) (p : Int × Int) (t : Tb) (preds : List Pr) : Option St :=
  if p.2 < 0 then some (addR x p (bnd t.pages) (bnd t.rows) t.rows)
  else match preds[p.2.toNat]? with
    | none => none
    | some q => if q.t ≠ p.1 ∨ (q.f ≠ -1 ∧ hasP q.f x.l = false) then none else match probeL t.rows q.c t.ix with
      | none => none
      | some r => some (addR x p (bnd (2 + min r 1099511627776)) (bnd r) r)
def withR (x : St) (p : Int × Int) (stats : List Tb) (preds : List Pr) : Option St :=
  if p.1 < 0 ∨ (stats.length : Int) ≤ p.1 ∨ hasP p.1 x.l = true ∨ p.2 < -1 ∨ (preds.length : Int) ≤ p.2 then none
  else match stats[p.1.toNat]? with
    | none => none
    | some t => withIn x p t preds
set_option maxHeartbeats 2000000 in
set_option maxRecDepth 100000 in
theorem with_out (x : St) (oa os oq : Option Addr) (c cs cq ns nq : Nat) (p q : Int) (w : World) (hl : x.l.length ≤ 1000000) (hns : ns ≤ 9223372036854775807) (hnq : nq ≤ 9223372036854775807) (hp : PAt w oa x.l)
    (h : p < 0 ∨ (ns : Int) ≤ p ∨ hasP p x.l = true ∨ q < -1 ∨ (nq : Int) ≤ q) :
    Calls Try.prog 18 #[x.val oa c, .slice os ns cs, .slice oq nq cq, .agg #[.int .i64 p, .int .i64 q]] w fun e w' => e = .returned (.tuple #[x.val oa c, .bool false]) ∧ Gr w w' := by
  have H := fun W hg => has_any oa c x.l (Fl.fw x.a) (Fl.fw x.b) x.rows p W (by omega) (hp.keep hg)
  obtain ⟨hb, hhb⟩ : ∃ b, hasP p x.l = b := ⟨_, rfl⟩
  rw [hhb] at H h
  unfold St.val
  generalize Fl.fw x.a = A at *
  generalize Fl.fw x.b = B at *
  generalize x.l.length = n at *
  generalize x.rows = R at *
  clear hp hhb
  by_cases h1 : p < 0
  · have g1 : decide (p < 0) = true := by simpa using h1
    clear h H
    go_enter Try.func18, Try.ntmps18
    go_wp2
    refine bodyPost_ret (v := .tuple #[.agg #[.slice oa n c, .complex .f64 A B, .int .i64 R], .bool false]) (by simp [results, Try.results18, go_sem, run_store_complex, *]; try rfl) rfl ⟨rfl, ?_⟩
    repeat' (first | exact Gr.refl _ | exact Nat.le_refl _ | exact Nat.le_add_right _ _ | refine Gr.setCell ?_ ?_ _ | refine Gr.alloc ?_ _ | refine Gr.drew ?_ | refine Gr.trans ?_ (by assumption) | omega | (dsimp only; omega))
  have g1 : decide (p < 0) = false := by simpa using h1
  by_cases h2 : (ns : Int) ≤ p
  · have g2 : decide ((ns : Int) ≤ p) = true := by simpa using h2
    clear h H
    go_enter Try.func18, Try.ntmps18
    go_wp2
    refine bodyPost_ret (v := .tuple #[.agg #[.slice oa n c, .complex .f64 A B, .int .i64 R], .bool false]) (by simp [results, Try.results18, go_sem, run_store_complex, *]; try rfl) rfl ⟨rfl, ?_⟩
    repeat' (first | exact Gr.refl _ | exact Nat.le_refl _ | exact Nat.le_add_right _ _ | refine Gr.setCell ?_ ?_ _ | refine Gr.alloc ?_ _ | refine Gr.drew ?_ | refine Gr.trans ?_ (by assumption) | omega | (dsimp only; omega))
  have g2 : decide ((ns : Int) ≤ p) = false := by simpa using h2
  by_cases h3 : hb = true
  · subst h3
    clear h
    go_enter Try.func18, Try.ntmps18
    go_wp2_with fail
    refine (H _ ?_).mono ?_
    · repeat' (first | exact Gr.refl _ | exact Nat.le_refl _ | exact Nat.le_add_right _ _ | refine Gr.setCell ?_ ?_ _ | refine Gr.alloc ?_ _ | refine Gr.drew ?_ | refine Gr.trans ?_ (by assumption) | omega | (dsimp only; omega))
    rintro e w1 ⟨rfl, hg⟩
    have hc := Gr.cells hg
    have hf := Gr.frees hg
    have hz := Gr.size hg
    simp only [World.size_alloc] at hz
    have hz0 : w.heap.size < w1.heap.size := by omega
    have hz1 : w.heap.size + 1 < w1.heap.size := by omega
    have hz2 : w.heap.size + 1 + 1 < w1.heap.size := by omega
    have k0 : w1.cell? ⟨w.heap.size + 1 + 1, 0, none⟩ = some (.slice none 0 0) := hg.keep (by go_simp)
    have k1 : w1.cell? ⟨w.heap.size + 1 + 1, 1, none⟩ = some (.complex .f64 0 0) := hg.keep (by go_simp)
    have k2 : w1.cell? ⟨w.heap.size + 1 + 1, 2, none⟩ = some (.int .i64 0) := hg.keep (by go_simp)
    go_wp2
    refine bodyPost_ret (v := .tuple #[.agg #[.slice oa n c, .complex .f64 A B, .int .i64 R], .bool false]) (by simp [results, Try.results18, go_sem, run_store_complex, *]; try rfl) rfl ⟨rfl, ?_⟩
    repeat' (first | exact Gr.refl _ | exact Nat.le_refl _ | exact Nat.le_add_right _ _ | refine Gr.setCell ?_ ?_ _ | refine Gr.alloc ?_ _ | refine Gr.drew ?_ | refine Gr.trans ?_ (by assumption) | omega | (dsimp only; omega))
  obtain rfl : hb = false := by simpa using h3
  by_cases h4 : q < -1
  · have g4 : decide (q < -1) = true := by simpa using h4
    clear h
    go_enter Try.func18, Try.ntmps18
    go_wp2_with fail
    refine (H _ ?_).mono ?_
    · repeat' (first | exact Gr.refl _ | exact Nat.le_refl _ | exact Nat.le_add_right _ _ | refine Gr.setCell ?_ ?_ _ | refine Gr.alloc ?_ _ | refine Gr.drew ?_ | refine Gr.trans ?_ (by assumption) | omega | (dsimp only; omega))
    rintro e w1 ⟨rfl, hg⟩
    have hc := Gr.cells hg
    have hf := Gr.frees hg
    have hz := Gr.size hg
    simp only [World.size_alloc] at hz
    have hz0 : w.heap.size < w1.heap.size := by omega
    have hz1 : w.heap.size + 1 < w1.heap.size := by omega
    have hz2 : w.heap.size + 1 + 1 < w1.heap.size := by omega
    have k0 : w1.cell? ⟨w.heap.size + 1 + 1, 0, none⟩ = some (.slice none 0 0) := hg.keep (by go_simp)
    have k1 : w1.cell? ⟨w.heap.size + 1 + 1, 1, none⟩ = some (.complex .f64 0 0) := hg.keep (by go_simp)
    have k2 : w1.cell? ⟨w.heap.size + 1 + 1, 2, none⟩ = some (.int .i64 0) := hg.keep (by go_simp)
    go_wp2
    refine bodyPost_ret (v := .tuple #[.agg #[.slice oa n c, .complex .f64 A B, .int .i64 R], .bool false]) (by simp [results, Try.results18, go_sem, run_store_complex, *]; try rfl) rfl ⟨rfl, ?_⟩
    repeat' (first | exact Gr.refl _ | exact Nat.le_refl _ | exact Nat.le_add_right _ _ | refine Gr.setCell ?_ ?_ _ | refine Gr.alloc ?_ _ | refine Gr.drew ?_ | refine Gr.trans ?_ (by assumption) | omega | (dsimp only; omega))
  have g4 : decide (q < -1) = false := by simpa using h4
  have h5 : (nq : Int) ≤ q := by
    rcases h with h | h | h | h | h
    · omega
    · omega
    · cases h
    · omega
    · exact h
  have g5 : decide ((nq : Int) ≤ q) = true := by simpa using h5
  clear h
  go_enter Try.func18, Try.ntmps18
  go_wp2_with fail
  refine (H _ ?_).mono ?_
  · repeat' (first | exact Gr.refl _ | exact Nat.le_refl _ | exact Nat.le_add_right _ _ | refine Gr.setCell ?_ ?_ _ | refine Gr.alloc ?_ _ | refine Gr.drew ?_ | refine Gr.trans ?_ (by assumption) | omega | (dsimp only; omega))
  rintro e w1 ⟨rfl, hg⟩
  have hc := Gr.cells hg
  have hf := Gr.frees hg
  have hz := Gr.size hg
  simp only [World.size_alloc] at hz
  have hz0 : w.heap.size < w1.heap.size := by omega
  have hz1 : w.heap.size + 1 < w1.heap.size := by omega
  have hz2 : w.heap.size + 1 + 1 < w1.heap.size := by omega
  have k0 : w1.cell? ⟨w.heap.size + 1 + 1, 0, none⟩ = some (.slice none 0 0) := hg.keep (by go_simp)
  have k1 : w1.cell? ⟨w.heap.size + 1 + 1, 1, none⟩ = some (.complex .f64 0 0) := hg.keep (by go_simp)
  have k2 : w1.cell? ⟨w.heap.size + 1 + 1, 2, none⟩ = some (.int .i64 0) := hg.keep (by go_simp)
  go_wp2
  refine bodyPost_ret (v := .tuple #[.agg #[.slice oa n c, .complex .f64 A B, .int .i64 R], .bool false]) (by simp [results, Try.results18, go_sem, run_store_complex, *]; try rfl) rfl ⟨rfl, ?_⟩
  repeat' (first | exact Gr.refl _ | exact Nat.le_refl _ | exact Nat.le_add_right _ _ | refine Gr.setCell ?_ ?_ _ | refine Gr.alloc ?_ _ | refine Gr.drew ?_ | refine Gr.trans ?_ (by assumption) | omega | (dsimp only; omega))
end Go.Proofs.Ytemhfaknmagebaa
