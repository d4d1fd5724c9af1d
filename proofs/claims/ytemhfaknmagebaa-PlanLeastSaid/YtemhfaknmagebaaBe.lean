/- plan: Best. -/
import Derived.Test.YtemhfaknmagebaaWz
namespace Go.Proofs.Ytemhfaknmagebaa
open Go.RowKit
set_option linter.unusedSimpArgs false
set_option linter.unusedVariables false
attribute [local go_sem] Rg.once_normal Rg.once_exit Rg.once_ret Rg.once_panic Rg.once_goto Rg.leads_value Rg.leads_skip Rg.leads_enter Rg.brings_value Rg.brings_skip Rg.brings_enter
attribute [local go_sem] run_store_complex
theorem run_store_func {P : Program} {w : World} {a : Addr} {m : Mode} (f : Fn) (ts cs : Array Value) : (store a (.func f ts cs) m).run P w = stored P w a (.func f ts cs) m := run_store P w a _ m rfl
attribute [local go_sem] run_store_func
def BestP (w : World) (stats : List Tb) (preds : List Pr) (e : Ending) (w' : World) : Prop :=
  ∃ ob cb, e = .returned (.tuple #[.slice ob (bestR aheadR stats preds).l.length cb, .complex .f64 (Fl.fw (bestR aheadR stats preds).a) (Fl.fw (bestR aheadR stats preds).b), .bool true]) ∧ PAt w' ob (bestR aheadR stats preds).l ∧ Gr w w'
theorem fw_zero : Fl.fw 0 = 0 := by decide +kernel
theorem Gr.ofGx {g : Nat} {w w1 w2 : World} (h : Gr w w1) (k : Gx g w1 w2) (hg : w.heap.size ≤ g) : Gr w w2 :=
  h.grown k (fun b hb => by cases hb; exact hg)
theorem best_out (os oq : Option Addr) (ns nq cs cq : Nat) (w : World) (h : ns < 1 ∨ 4 < ns) :
    Calls Try.prog 5 #[.slice os ns cs, .slice oq nq cq] w fun e w' => e = .returned (.tuple #[.slice none 0 0, .complex .f64 0 0, .bool false]) ∧ Gr w w' := by
  by_cases h1 : ns < 1
  · have e0 : ns = 0 := by omega
    subst e0
    go_enter Try.func5, Try.ntmps5
    go_wp2
    go_ret3
    exact ⟨rfl, ((Gr.refl _).alloc _).alloc _⟩
  · have g1 : decide ((ns : Int) < 1) = false := by simp; omega
    have g2 : decide ((4 : Int) < (ns : Int)) = true := by simp; omega
    have g3 : ¬ ns = 0 := by omega
    go_enter Try.func5, Try.ntmps5
    go_wp2
    go_ret3
    exact ⟨rfl, ((Gr.refl _).alloc _).alloc _⟩
set_option maxHeartbeats 4000000 in
set_option maxRecDepth 100000 in
theorem best_any (os oq : Option Addr) (cs cq : Nat) (stats : List Tb) (preds : List Pr) (w : World) (hns : 1 ≤ stats.length) (hns4 : stats.length ≤ 4) (hnq : preds.length ≤ 1000000) (hS : SAt w os stats) (hQ : QAt w oq preds) :
    Calls Try.prog 5 #[.slice os stats.length cs, .slice oq preds.length cq] w (BestP w stats preds) := by
  have g1 : decide ((stats.length : Int) < 1) = false := by simp; omega
  have g2 : decide ((4 : Int) < (stats.length : Int)) = false := by simp; omega
  have HWk := fun (gB gS gP gW : Nat) W h1 h2 => walk_any (W0 := w) (os := os) (oq := oq) (cs := cs) (cq := cq) (gB := gB) (gS := gS) (gP := gP) (gW := gW) (by omega) hnq hS hQ stats.length st0 none0 none 0 W h1 h2 (by simp [st0])
  have ev : St.val st0 none 0 = .agg #[.slice none 0 0, .complex .f64 0 0, .int .i64 1] := by unfold St.val st0; simp only [fw_zero]; rfl
  rw [ev] at HWk
  have hB : Hid (walkR aheadR stats preds stats.length st0 none0 = bestR aheadR stats preds) := hid rfl
  have HBP : ∀ B : St, bestR aheadR stats preds = B → BestP w stats preds = fun e w' => ∃ ob cb, e = .returned (.tuple #[.slice ob B.l.length cb, .complex .f64 (Fl.fw B.a) (Fl.fw B.b), .bool true]) ∧ PAt w' ob B.l ∧ Gr w w' := fun B h => by subst h; rfl
  obtain ⟨B, hBB⟩ : ∃ B, bestR aheadR stats preds = B := ⟨_, rfl⟩
  rw [HBP B hBB]
  rw [hBB] at hB
  rw [hB.out] at HWk
  have HW := hid HWk
  clear HWk HBP hBB hB hS hQ
  go_enter Try.func5, Try.ntmps5
  go_wp2_with fail
  refine (HW.out (w.heap.size + 1 + 1) w.heap.size (w.heap.size + 1) (w.heap.size + 1 + 1 + 1) _ ?_ ?_).mono ?_
  · have ec0 : Value.slice none none0.l.length 0 = .slice none 0 0 := rfl
    have ec1 : Value.complex .f64 (Fl.fw none0.a) (Fl.fw none0.b) = .complex .f64 0 0 := by unfold none0; simp only [fw_zero]
    have ec2 : Value.int .i64 none0.rows = .int .i64 0 := rfl
    refine ⟨((((Gr.refl _).alloc _).alloc _).alloc _).alloc _, by omega, by omega, by omega, by omega, by go_simp, by go_simp, by go_simp, ⟨none, 0, ?_, ?_, ?_, ⟨.inl rfl, fun _ _ _ e => (by cases e), Nat.le_refl _, ⟨by simp [none0], by simp [none0]⟩, by simp [none0], by simp [none0]⟩⟩, by go_simp, by go_simp, by go_simp⟩
    · rw [ec0]; go_simp
    · rw [ec1]; go_simp
    · rw [ec2]; go_simp
  · exact ⟨.inl rfl, fun _ _ _ e => (by cases e), Nat.le_refl _, ⟨by simp [st0], by simp [st0]⟩, by simp [st0], by simp [st0]⟩
  rintro e w2 ⟨rfl, hx, hv⟩
  obtain ⟨ob, cb, c0, c1, c2, hb⟩ := hv.best
  have hbase := hv.base
  have hl := lt_of_cell c0
  have hlen := hb.len
  have HBp := hid hb.p
  have C := fun W => clip_any ob B.l.length cb W hlen
  clear hx hv HW hb hlen
  obtain ⟨BA, hBA⟩ : ∃ v, Fl.fw B.a = v := ⟨_, rfl⟩
  obtain ⟨BB, hBB⟩ : ∃ v, Fl.fw B.b = v := ⟨_, rfl⟩
  rw [hBA, hBB] at c1
  have HBA := hid hBA
  have HBB := hid hBB
  clear hBA hBB
  go_wp2_with fail
  go_quiet ((first | (with_reducible exact Calls.quiet_of_same (C _))))
  go_wp2
  refine bodyPost_ret (by simp [results, Try.results5, go_sem]; try rfl) rfl ?_
  exact ⟨ob, B.l.length, by rw [HBA.out, HBB.out], HBp.out.keep ((Gr.refl _).drewN _), hbase.drewN _⟩
end Go.Proofs.Ytemhfaknmagebaa
