/- plan: state.with, all of it; ahead, told exactly. -/
import Derived.Test.YtemhfaknmagebaaH7
import Derived.Test.YtemhfaknmagebaaLw
import Derived.Test.YtemhfaknmagebaaH4
namespace Go.Proofs.Ytemhfaknmagebaa
open Go.RowKit
set_option linter.unusedSimpArgs false
set_option linter.unusedVariables false
attribute [local go_sem] Rg.once_normal Rg.once_exit Rg.once_ret Rg.once_panic Rg.once_goto Rg.leads_value Rg.leads_skip Rg.leads_enter Rg.brings_value Rg.brings_skip Rg.brings_enter
attribute [local go_sem] run_store_complex
def WithAll (w : World) (x : St) (oa : Option Addr) (c : Nat) : Option St → Ending → World → Prop
  | none, e, w' => e = .returned (.tuple #[x.val oa c, .bool false]) ∧ Gr w w'
  | some y, e, w' => WithP w y e w'
theorem with_any (x : St) (oa os oq : Option Addr) (c cs cq : Nat) (stats : List Tb) (preds : List Pr) (p : Int × Int) (w : World) (hl : x.l.length ≤ 1000000) (hns : stats.length ≤ 9223372036854775807) (hnq : preds.length ≤ 9223372036854775807)
    (hp : PAt w oa x.l) (hS : SAt w os stats) (hQ : QAt w oq preds) (hx : Sm x) (hxr : x.rows ≤ 9223372036854775807) :
    Calls Try.prog 18 #[x.val oa c, .slice os stats.length cs, .slice oq preds.length cq, .agg #[.int .i64 p.1, .int .i64 p.2]] w (WithAll w x oa c (withR x p stats preds)) := by
  by_cases h0 : p.1 < 0 ∨ (stats.length : Int) ≤ p.1 ∨ hasP p.1 x.l = true ∨ p.2 < -1 ∨ (preds.length : Int) ≤ p.2
  · have e : withR x p stats preds = none := by unfold withR; rw [if_pos h0]
    rw [e]
    exact with_out x oa os oq c cs cq stats.length preds.length p.1 p.2 w hl hns hnq hp h0
  · have h1 := h0
    simp only [not_or, Bool.not_eq_true] at h1
    obtain ⟨a1, a2, a3, a4, a5⟩ := h1
    obtain ⟨p1, p2⟩ := p
    simp only at a1 a2 a3 a4 a5 h0 ⊢
    obtain ⟨k, rfl⟩ : ∃ k : Nat, p1 = (k : Int) := ⟨p1.toNat, by omega⟩
    have hk : k < stats.length := by omega
    have ht : stats[(k : Int).toNat]? = some stats[k] := by simp
    have ew : withR x ((k : Int), p2) stats preds = withIn x ((k : Int), p2) stats[k] preds := with_of (by simp) (by simp; omega) a3 (by simp; omega) (by simp; omega) ht
    rw [ew]
    rcases hS with hS | ⟨b, off, rfl, hS⟩
    · rw [hS] at hk; simp at hk
    obtain ⟨t0, t1, t2, t3, t4, t5⟩ := hS k hk
    by_cases hj : p2 < 0
    · have e2 : p2 = -1 := by omega
      subst e2
      have e : withIn x ((k : Int), -1) stats[k] preds = some (addR x ((k : Int), -1) (bnd stats[k].pages) (bnd stats[k].rows) stats[k].rows) := by unfold withIn; rw [if_pos (by simp)]
      rw [e]
      exact with_scan x oa (some ⟨b, off, none⟩) oq c cs cq stats.length preds.length k b off stats[k] w hl hns hnq hp hk a3 hx.1 hx.2 hxr t0 t1 t2 t5
    · obtain ⟨j, rfl⟩ : ∃ j : Nat, p2 = (j : Int) := ⟨p2.toNat, by omega⟩
      have hjq : j < preds.length := by omega
      rcases hQ with hQ | ⟨b', off', rfl, hQ⟩
      · rw [hQ] at hjq; simp at hjq
      obtain ⟨q0, q1, q2, q3⟩ := hQ j hjq
      have hq : preds[j]? = some preds[j] := by simp
      by_cases hc : preds[j].t ≠ (k : Int) ∨ (preds[j].f ≠ -1 ∧ hasP preds[j].f x.l = false)
      · have e : withIn x ((k : Int), (j : Int)) stats[k] preds = none := by
          unfold withIn
          rw [if_neg (by simp)]
          simp only [Int.toNat_natCast, hq]
          rw [if_pos hc]
        rw [e]
        refine with_cut x oa (some ⟨b, off, none⟩) (some ⟨b', off', none⟩) c cs cq stats.length preds.length k j b off b' off' stats[k] preds[j] w hl hns hnq hp hk hjq a3 t0 t1 t2 t3 t4 t5 q0 q1 q2 q3 ?_
        rcases hc with h | h
        · exact .inl h
        · exact .inr (.inl h)
      · cases hpr : probeL stats[k].rows preds[j].c stats[k].ix with
        | none =>
          have e : withIn x ((k : Int), (j : Int)) stats[k] preds = none := by
            unfold withIn
            rw [if_neg (by simp)]
            simp only [Int.toNat_natCast, hq]
            rw [if_neg hc, hpr]
          rw [e]
          exact with_cut x oa (some ⟨b, off, none⟩) (some ⟨b', off', none⟩) c cs cq stats.length preds.length k j b off b' off' stats[k] preds[j] w hl hns hnq hp hk hjq a3 t0 t1 t2 t3 t4 t5 q0 q1 q2 q3 (.inr (.inr hpr))
        | some r =>
          have e : withIn x ((k : Int), (j : Int)) stats[k] preds = some (addR x ((k : Int), (j : Int)) (bnd (2 + min r 1099511627776)) (bnd r) r) := by
            unfold withIn
            rw [if_neg (by simp)]
            simp only [Int.toNat_natCast, hq]
            rw [if_neg hc, hpr]
          rw [e]
          simp only [not_or, not_and, Bool.not_eq_false, Decidable.not_not] at hc
          refine with_probe x oa (some ⟨b, off, none⟩) (some ⟨b', off', none⟩) c cs cq stats.length preds.length k j b off b' off' stats[k] preds[j] w hl hns hnq hp hk hjq a3 t0 t1 t2 t3 t4 t5 q0 q1 q2 q3 hx.1 hx.2 hxr r hc.1 ?_ hpr
          by_cases hf : preds[j].f = -1
          · exact .inl hf
          · exact .inr (hc.2 hf)
end Go.Proofs.Ytemhfaknmagebaa
