/- cost: Probe. -/
import Derived.Test.YtemhfaknmagebaaC1
import Derived.BigRegion
import Derived.ChangeAlike
import Derived.BigQuiet
import Derived.Deep.QuietTactic
namespace Go.Proofs.Ytemhfaknmagebaa
open Go.RowKit
set_option linter.unusedSimpArgs false
set_option linter.unusedVariables false
/-- n over d, upwards -/
def cdiv (n d : Int) : Int := n / d + (if 0 < n % d then 1 else 0)
/-- how many rows a probe tells: the first index of the column -/
def probeL (rows : Int) (col : Int) : List (Int × Int) → Option Int
  | [] => none
  | x :: r => if x.1 = col then some (cdiv (max rows 0) (max x.2 1)) else probeL rows col r
theorem cdiv_bd (n d : Int) (hn : 0 ≤ n) (hd : 1 ≤ d) : 0 ≤ cdiv n d ∧ cdiv n d ≤ n := by
  unfold cdiv
  have h1 := Int.emod_nonneg n (show d ≠ 0 by omega)
  have h2 := Int.mul_ediv_add_emod n d
  have h3 : 0 ≤ n / d := Int.ediv_nonneg hn (by omega)
  have h4 : n / d ≤ d * (n / d) := by
    have := Int.mul_le_mul_of_nonneg_right hd h3
    omega
  split <;> omega
/-- a row of indexes -/
def CRow (w : World) (b off : Nat) (l : List (Int × Int)) : Prop := b < w.heap.size ∧ ∀ k (h : k < l.length), w.cell? ⟨b, off + k * 2, none⟩ = some (.int .i64 l[k].1) ∧ w.cell? ⟨b, off + k * 2 + 1, none⟩ = some (.int .i64 l[k].2)
theorem CRow.keep {w w' : World} {b off : Nat} {l : List (Int × Int)} (h : CRow w b off l) (hg : Gr w w') : CRow w' b off l :=
  ⟨Nat.lt_of_lt_of_le h.1 hg.size, fun k hk => ⟨hg.keep (h.2 k hk).1, hg.keep (h.2 k hk).2⟩⟩
/-- what a probe hands back -/
def probeV : Option Int → Value
  | none => .tuple #[.complex .f64 0 0, .int .i64 0, .bool false]
  | some r => .tuple #[.complex .f64 (Fl.fw (bnd (2 + min r 1099511627776))) (Fl.fw (bnd r)), .int .i64 r, .bool true]
set_option maxHeartbeats 2000000 in
set_option maxRecDepth 100000 in
theorem probe_any (rows pages col : Int) (b off c : Nat) (l : List (Int × Int)) (w : World) (hl : l.length ≤ 9223372036854775807) (hrow : CRow w b off l) (hr : rows ≤ 9223372036854775807) :
    Calls Try.prog 6 #[.agg #[.int .i64 rows, .int .i64 pages, .slice (some ⟨b, off, none⟩) l.length c], .int .i64 col] w fun e w' => e = .returned (probeV (probeL rows col l)) ∧ Gr w w' := by
  have hd0 : probeL rows col l = probeL rows col (l.drop 0) := rfl
  obtain ⟨RR, hRR⟩ : ∃ R, R = probeL rows col l := ⟨_, rfl⟩
  rw [← hRR] at hd0 ⊢
  have HR := hid hd0
  clear hRR hd0
  have O := fun p r W => of_any p r W
  go_enter Try.func6, Try.ntmps6
  go_wp2_with fail
  go_loopw [15] (fun i wr => ∃ k : Nat, i = .int .i64 k ∧ k ≤ l.length ∧ Gr (w.alloc (.cells #[.int .i64 rows, .int .i64 pages, .slice (some ⟨b, off, none⟩) l.length c] 26)) wr ∧ Hid (RR = probeL rows col (l.drop k))) (fun i _ => l.length - (intOf i).toNat)
  case atStart => exact ⟨0, rfl, Nat.zero_le _, Gr.refl _, HR⟩
  case round =>
    obtain ⟨k, rfl, hk, hg, H⟩ := hrel
    by_cases hlt : k < l.length
    · have hg1 : Gr w _ := ((Gr.refl w).alloc _).trans hg
      obtain ⟨_, hcs⟩ := hrow.keep hg1
      obtain ⟨c0, c1⟩ := hcs k hlt
      have HH := H.out
      rw [List.drop_eq_getElem_cons hlt] at HH
      simp only [probeL] at HH
      generalize l[k] = x at *
      obtain ⟨cl, d⟩ := x
      simp only at c0 c1 HH
      have hbb := lt_of_cell c0
      by_cases hcol : cl = col
      · subst hcol
        rw [if_pos rfl] at HH
        have t1 : (cl != cl) = false := by simp
        have b0 : (w.alloc (.cells #[.int .i64 rows, .int .i64 pages, .slice (some ⟨b, off, none⟩) l.length c] 26)).cell? ⟨w.heap.size, 0, none⟩ = some (.int .i64 rows) := by go_simp
        have d0 := hg.keep b0
        have hws : w.heap.size < _ := lt_of_cell d0
        have e1 : ∀ x : Int, (if x < 0 then 0 else x) = max x 0 := fun x => by omega
        have e3 : ∀ x : Int, (if x < 1 then 1 else x) = max x 1 := fun x => by omega
        have e2 : ∀ x : Int, (if 1099511627776 < x then 1099511627776 else x) = min x 1099511627776 := fun x => by omega
        have hn0 : 0 ≤ max rows 0 := by omega
        have hn1 : max rows 0 ≤ 9223372036854775807 := by omega
        have hd0 : 1 ≤ max d 1 := by omega
        have hcd := cdiv_bd (max rows 0) (max d 1) hn0 hd0
        obtain ⟨hcd1, hcd2⟩ := hcd
        unfold cdiv at HH hcd1 hcd2
        by_cases ht : 0 < max rows 0 % max d 1
        · rw [if_pos ht] at HH hcd1 hcd2
          have W1 : wrap64 (max rows 0 / max d 1 + 1) = max rows 0 / max d 1 + 1 := by unfold wrap64; omega
          have W2 : wrap64 (2 + min (max rows 0 / max d 1 + 1) 1099511627776) = 2 + min (max rows 0 / max d 1 + 1) 1099511627776 := by unfold wrap64; omega
          subst HH
          clear hcs H hrow b0 HR hcd1 hcd2
          go_wp2_with fail
          go_region
          all_goals
            go_wp2_with fail
            refine (O _ _ _).mono ?_
            rintro e w' ⟨rfl, rfl⟩
            go_wp2
            go_ret3
            exact ⟨rfl, ((hg1.alloc _).drew)⟩
        · rw [if_neg ht] at HH hcd1 hcd2
          rw [Int.add_zero] at HH hcd1 hcd2
          have W2 : wrap64 (2 + min (max rows 0 / max d 1) 1099511627776) = 2 + min (max rows 0 / max d 1) 1099511627776 := by unfold wrap64; omega
          subst HH
          clear hcs H hrow b0 HR hcd1 hcd2
          go_wp2_with fail
          go_region
          all_goals
            go_wp2_with fail
            refine (O _ _ _).mono ?_
            rintro e w' ⟨rfl, rfl⟩
            go_wp2
            go_ret3
            exact ⟨rfl, ((hg1.alloc _).drew)⟩
      · rw [if_neg hcol] at HH
        have t1 : (cl != col) = true := by simpa using hcol
        have HH' := hid HH
        clear HH hcs H hrow
        go_wp2
        exact ⟨⟨k + 1, by go_num, by omega, hg.alloc _, HH'⟩, by simp [intOf]; omega⟩
    · obtain rfl : k = l.length := by omega
      have hn : RR = none := by rw [H.out, List.drop_length]; rfl
      subst hn
      go_wp2
      refine bodyPost_ret (by simp [results, Try.results6, go_sem, probeV]; try rfl) rfl ⟨rfl, ((Gr.refl w).alloc _).trans hg⟩
set_option maxHeartbeats 2000000 in
set_option maxRecDepth 100000 in
theorem probe_none (rows pages col : Int) (oa : Option Addr) (c : Nat) (w : World) :
    Calls Try.prog 6 #[.agg #[.int .i64 rows, .int .i64 pages, .slice oa 0 c], .int .i64 col] w fun e w' => e = .returned (probeV none) ∧ Gr w w' := by
  go_enter Try.func6, Try.ntmps6
  go_wp2_with fail
  go_loopw [15] (fun i wr => i = .int .i64 0 ∧ Gr (w.alloc (.cells #[.int .i64 rows, .int .i64 pages, .slice oa 0 c] 26)) wr) (fun i _ => 0)
  case atStart => exact ⟨rfl, Gr.refl _⟩
  case round =>
    obtain ⟨rfl, hg⟩ := hrel
    go_wp2
    refine bodyPost_ret (by simp [results, Try.results6, go_sem, probeV]; try rfl) rfl ⟨rfl, ((Gr.refl w).alloc _).trans hg⟩
end Go.Proofs.Ytemhfaknmagebaa
