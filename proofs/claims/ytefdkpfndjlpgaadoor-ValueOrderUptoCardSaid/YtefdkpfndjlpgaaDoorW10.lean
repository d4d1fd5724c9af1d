/- The document's numbers. -/
import Derived.Test.YtefdkpfndjlpgaaDoorW9
import Derived.BigQuiet
import Derived.Deep.QuietTactic
namespace Go.Proofs.YtefdkpfndjlpgaaDoor
open Go.RowKit
set_option linter.unusedSimpArgs false
set_option linter.unusedVariables false
attribute [local go_sem] Rg.once_normal Rg.once_exit Rg.once_ret Rg.once_panic Rg.once_goto Rg.leads_value Rg.leads_skip Rg.leads_enter
def numE (r : V × Int) : Ending := .returned (.tuple #[.int .i64 r.1.n, .int .i64 r.2])
theorem fitE_no {n : Int} (h : ¬ (-9223372036854775808 ≤ n ∧ n ≤ 9223372036854775807)) : numE (fitR n) = .returned (.tuple #[.int .i64 0, .int .i64 161]) := by
  have : Vl.fitsB n = false := by rw [← Bool.not_eq_true, Vl.fits_iff]; exact h
  unfold numE fitR; rw [this]; rfl
theorem fitE_yes {n m : Int} (h1 : -9223372036854775808 ≤ n) (h2 : n ≤ 9223372036854775807) (e : m = n) : numE (fitR n) = .returned (.tuple #[.int .i64 m, .int .i64 0]) := by
  have : Vl.fitsB n = true := by rw [Vl.fits_iff]; exact ⟨h1, h2⟩
  subst e
  unfold numE fitR; rw [this]; rfl
def Bd (n : Int) : Prop := -9223372036854775808 ≤ n ∧ n ≤ 9223372036854775807
theorem bd_of {n : Int} (h : Vl.fitsB n = true) : Bd n := (Vl.fits_iff n).1 h
set_option maxHeartbeats 1000000 in
set_option maxRecDepth 100000 in
theorem rnum_add (a b : Int) (w : World) (ha : Bd a) (hb : Bd b) : Calls Tryd.prog 39 #[.int .i64 18, .int .i64 a, .int .i64 b] w fun e w' => e = numE (fitR (a + b)) ∧ w' = w := by
  obtain ⟨s, hs⟩ : ∃ s, wrap64 (a + b) = s := ⟨_, rfl⟩
  have Hs := hid hs
  generalize hr : numE (fitR (a + b)) = R
  have Hr := hid hr
  clear hr
  go_enter Tryd.func39, Tryd.ntmps39
  go_wp2
  all_goals go_returns
  all_goals
    refine ⟨?_, rfl⟩
    have h1 := Hs.out
    unfold wrap64 at h1
    obtain ⟨a1, a2⟩ := ha
    obtain ⟨b1, b2⟩ := hb
    rw [← Hr.out]
    first
    | (rw [fitE_no (by omega)]; rfl)
    | (rw [fitE_yes (m := s) (by omega) (by omega) (by omega)]; rfl)
set_option maxHeartbeats 1000000 in
set_option maxRecDepth 100000 in
theorem rnum_sub (a b : Int) (w : World) (ha : Bd a) (hb : Bd b) : Calls Tryd.prog 39 #[.int .i64 19, .int .i64 a, .int .i64 b] w fun e w' => e = numE (fitR (a - b)) ∧ w' = w := by
  obtain ⟨s, hs⟩ : ∃ s, wrap64 (a - b) = s := ⟨_, rfl⟩
  have Hs := hid hs
  generalize hr : numE (fitR (a - b)) = R
  have Hr := hid hr
  clear hr
  go_enter Tryd.func39, Tryd.ntmps39
  go_wp2
  all_goals go_returns
  all_goals
    refine ⟨?_, rfl⟩
    have h1 := Hs.out
    unfold wrap64 at h1
    obtain ⟨a1, a2⟩ := ha
    obtain ⟨b1, b2⟩ := hb
    rw [← Hr.out]
    first
    | (rw [fitE_no (by omega)]; rfl)
    | (rw [fitE_yes (m := s) (by omega) (by omega) (by omega)]; rfl)
theorem prod_zero (a b : Int) (h : (a == 0 || b == 0) = true) : a * b = 0 := by
  simp at h
  rcases h with h | h <;> rw [h] <;> simp
def leastB (a b : Int) : Bool := ((a == -1) && (b == -9223372036854775808)) || ((b == -1) && (a == -9223372036854775808))
def pdt (a b : Int) : Int := if a == 0 then 0 else if b == 0 then 0 else if leastB a b then 0 else wrap64 (a * b)
theorem least_no (a b : Int) (h : leastB a b = true) : Vl.fitsB (a * b) = false := by
  unfold leastB at h
  simp only [Bool.or_eq_true, Bool.and_eq_true, beq_iff_eq] at h
  rcases h with ⟨rfl, rfl⟩ | ⟨rfl, rfl⟩ <;> rfl
theorem pdt_div (a b p : Int) (ha : Bd a) (hb : Bd b) (hb0 : (b == 0) = false) (hp : wrap64 (a * b) = p) (hl : leastB a b = false) :
    (IntKind.i64.wrap (p.tdiv b) == a) = Vl.fitsB (a * b) ∧ (Vl.fitsB (a * b) = true → p = a * b) := by
  have hpb : Bd p := by unfold wrap64 at hp; unfold Bd; omega
  have hb1 : b ≠ 0 := by simpa using hb0
  have hk : ∃ k : Int, p = a * b + k * 18446744073709551616 := by
    unfold wrap64 at hp
    exact ⟨-((a * b + 9223372036854775808) / 18446744073709551616), by omega⟩
  obtain ⟨h1, h2⟩ := Vl.product_of a b p ((Vl.fits_iff b).2 hb) hb1 ((Vl.fits_iff p).2 hpb) hk
  refine ⟨?_, h2⟩
  rw [← h1]
  have hq : IntKind.i64.wrap (p.tdiv b) = p.tdiv b := by
    have h3 : (p.tdiv b).natAbs ≤ p.natAbs := by rw [Int.natAbs_tdiv]; exact Nat.div_le_self _ _
    by_cases hc : p = -9223372036854775808
    · by_cases hbm : b = -1
      · exfalso
        subst hbm
        unfold wrap64 at hp
        unfold leastB at hl
        have : a = -9223372036854775808 := by unfold Bd at ha; omega
        subst this
        simp at hl
      · have h4 : 2 ≤ b.natAbs ∨ b = 1 := by omega
        rcases h4 with h4 | h4
        · have h5 : (p.tdiv b).natAbs ≤ 4611686018427387904 := by
            rw [Int.natAbs_tdiv]
            calc p.natAbs / b.natAbs ≤ p.natAbs / 2 := Nat.div_le_div_left h4 (by omega)
              _ ≤ 4611686018427387904 := by unfold Bd at hpb; omega
          rw [IntKind.wrap_i64]; omega
        · subst h4; rw [Int.tdiv_one, IntKind.wrap_i64]; unfold Bd at hpb; omega
    · rw [IntKind.wrap_i64]; unfold Bd at hpb; omega
  rw [hq, Bool.eq_iff_iff]
  simp
set_option maxHeartbeats 2000000 in
set_option maxRecDepth 100000 in
theorem product_any (a b : Int) (w : World) (ha : Bd a) (hb : Bd b) : Calls Tryd.prog 59 #[.int .i64 a, .int .i64 b] w fun e w' => e = .returned (.tuple #[.int .i64 (pdt a b), .bool (Vl.fitsB (a * b))]) ∧ Gr w w' := by
  obtain ⟨b1, t1⟩ : ∃ c, (a == 0) = c := ⟨_, rfl⟩
  obtain ⟨b2, t2⟩ : ∃ c, (b == 0) = c := ⟨_, rfl⟩
  cases b1
  · cases b2
    · generalize hp : wrap64 (a * b) = p
      obtain ⟨b3, t3⟩ : ∃ c, (a == -1) = c := ⟨_, rfl⟩
      obtain ⟨b4, t4⟩ : ∃ c, (b == -1) = c := ⟨_, rfl⟩
      obtain ⟨b5, t5⟩ : ∃ c, (a == -9223372036854775808) = c := ⟨_, rfl⟩
      obtain ⟨b6, t6⟩ : ∃ c, (b == -9223372036854775808) = c := ⟨_, rfl⟩
      have hl : leastB a b = ((b3 && b6) || (b4 && b5)) := by unfold leastB; rw [t3, t4, t5, t6]
      have hpd : pdt a b = if leastB a b then 0 else p := by unfold pdt; rw [t1, t2, hp]; rfl
      rw [hpd]
      by_cases hle : leastB a b = true
      · rw [least_no a b hle, hle]
        rw [hl] at hle
        clear hpd hl
        cases b3 <;> cases b4 <;> cases b5 <;> cases b6 <;> simp at hle
        all_goals
          go_enter Tryd.func59, Tryd.ntmps59
          go_wp2
          go_returns
          exact ⟨rfl, Gr.refl _⟩
      · have hle' : leastB a b = false := by simpa using hle
        have hd := (pdt_div a b p ha hb t2 hp hle').1
        rw [hle']
        rw [hl] at hle'
        have hb1 : ¬ b = 0 := by simpa using t2
        clear hpd hl hle ha hb
        generalize Vl.fitsB (a * b) = fb at *
        rw [IntWalk.i64_left] at hd
        have Hd := hid hd
        clear hd
        simp only [Bool.false_eq_true, if_false]
        cases b3 <;> cases b4 <;> cases b5 <;> cases b6 <;> simp at hle'
        all_goals
          go_enter Tryd.func59, Tryd.ntmps59
          go_wp2_with fail
          go_quiet (fail)
          go_wp2
          go_returns
          refine ⟨?_, ?_⟩
          · show Ending.returned (.tuple #[.int .i64 (wrap64 (a * b)), .bool (wrap64 (p.tdiv b) == a)]) = _
            rw [hp, Hd.out]
          exact ((Gr.refl _).drewN _)
    · have h1 : b = 0 := by simpa using t2
      have h2 : Vl.fitsB (a * b) = true := by rw [h1]; simp; rfl
      have h3 : pdt a b = 0 := by unfold pdt; rw [t1, t2]; rfl
      rw [h2, h3]
      clear h1 h2 h3 ha hb
      go_enter Tryd.func59, Tryd.ntmps59
      go_wp2
      go_returns
      exact ⟨rfl, Gr.refl _⟩
  · have h1 : a = 0 := by simpa using t1
    have h2 : Vl.fitsB (a * b) = true := by rw [h1]; simp; rfl
    have h3 : pdt a b = 0 := by unfold pdt; rw [t1]; rfl
    rw [h2, h3]
    clear h1 h2 h3 ha hb
    go_enter Tryd.func59, Tryd.ntmps59
    go_wp2
    go_returns
    exact ⟨rfl, Gr.refl _⟩
set_option maxHeartbeats 2000000 in
set_option maxRecDepth 100000 in
theorem rnum_mul (a b : Int) (w : World) (ha : Bd a) (hb : Bd b) : Calls Tryd.prog 39 #[.int .i64 20, .int .i64 a, .int .i64 b] w fun e w' => e = numE (fitR (a * b)) ∧ Gr w w' := by
  have P := fun W => product_any a b W ha hb
  have h1 : Vl.fitsB (a * b) = true → pdt a b = a * b := by
    intro hf
    unfold pdt
    by_cases h1 : (a == 0) = true
    · rw [if_pos h1]; simp at h1; rw [h1]; simp
    · rw [if_neg h1]
      by_cases h2 : (b == 0) = true
      · rw [if_pos h2]; simp at h2; rw [h2]; simp
      · rw [if_neg h2]
        have h3 : leastB a b = false := by
          cases h : leastB a b
          · rfl
          · rw [least_no a b h] at hf; cases hf
        rw [if_neg (by rw [h3]; simp)]
        exact (pdt_div a b _ ha hb (by simpa using h2) rfl h3).2 hf
  have h2 : numE (fitR (a * b)) = .returned (.tuple #[.int .i64 (if Vl.fitsB (a * b) then pdt a b else 0), .int .i64 (if Vl.fitsB (a * b) then 0 else 161)]) := by
    cases hf : Vl.fitsB (a * b)
    · unfold numE fitR; rw [hf]; rfl
    · rw [h1 hf]; unfold numE fitR; rw [hf]; rfl
  rw [h2]
  clear h1 h2 ha hb
  generalize pdt a b = p at *
  generalize Vl.fitsB (a * b) = f at *
  cases f
  all_goals
    go_enter Tryd.func39, Tryd.ntmps39
    go_wp2_with (first | (go_at_call 59; ((with_reducible refine (P _).mono ?_)); rintro e w' ⟨rfl, hg⟩; have hc := hg.cells; have hf := hg.frees; have hz := hg.size; (try simp only [World.size_alloc, World.size_setCell, World.size_drew] at hz); (try have : w.heap.size < w'.heap.size := by omega); (try have : w.heap.size + 1 < w'.heap.size := by omega); (try have : w.heap.size + 1 + 1 < w'.heap.size := by omega); (try have : w.heap.size + 1 + 1 + 1 < w'.heap.size := by omega)))
    go_returns
    refine ⟨rfl, ?_⟩
    repeat' (first | exact Gr.refl _ | exact Nat.le_refl _ | exact Nat.le_add_right _ _ | refine Gr.setCell ?_ ?_ _ | refine Gr.alloc ?_ _ | refine Gr.drew ?_ | refine Gr.trans ?_ (by assumption) | omega | (dsimp only; omega))
set_option maxHeartbeats 2000000 in
set_option maxRecDepth 100000 in
theorem rnum_quo (op a b : Int) (w : World) (ha : Bd a) (hb : Bd b) (hop : op = 21 ∨ op = 22) : Calls Tryd.prog 39 #[.int .i64 op, .int .i64 a, .int .i64 b] w fun e w' => e = numE (arithR op a b) ∧ Gr w w' := by
  have hx : ∀ n : Int, n.natAbs ≤ a.natAbs → n ≠ 9223372036854775808 → Bd n := by unfold Bd at *; intro n h1 h2; omega
  have hq : b ≠ -1 → b ≠ 0 → Bd (a.tdiv b) := by
    intro h1 h0
    refine hx _ (by rw [Int.natAbs_tdiv]; exact Nat.div_le_self _ _) ?_
    intro h2
    have h3 : (a.tdiv b).natAbs ≤ a.natAbs := by rw [Int.natAbs_tdiv]; exact Nat.div_le_self _ _
    have h4 : a = -9223372036854775808 := by unfold Bd at ha; omega
    have h5 : 2 ≤ b.natAbs ∨ b = 1 := by omega
    rcases h5 with h5 | h5
    · have h6 : (a.tdiv b).natAbs ≤ 4611686018427387904 := by
        rw [Int.natAbs_tdiv]
        calc a.natAbs / b.natAbs ≤ a.natAbs / 2 := Nat.div_le_div_left h5 (by omega)
          _ ≤ 4611686018427387904 := by unfold Bd at ha; omega
      omega
    · subst h5; rw [Int.tdiv_one] at h2; omega
  have hr : Bd (a.tmod b) := by
    have h1 : (a.tmod b).natAbs ≤ a.natAbs := by rw [Int.natAbs_tmod]; exact Nat.mod_le _ _
    refine hx _ h1 ?_
    intro h2
    have h3 : a = -9223372036854775808 := by unfold Bd at ha; omega
    subst h3
    have h4 : 0 ≤ -((-9223372036854775808 : Int).tmod b) := by
      rw [← Int.neg_tmod]
      exact Int.tmod_nonneg _ (by omega)
    omega
  obtain ⟨b1, t1⟩ : ∃ c, (b == 0) = c := ⟨_, rfl⟩
  obtain ⟨b2, t2⟩ : ∃ c, (b == -1) = c := ⟨_, rfl⟩
  obtain ⟨b3, t3⟩ : ∃ c, (a == -9223372036854775808) = c := ⟨_, rfl⟩
  cases b1
  · cases b2
    · have n0 : ¬ b = 0 := by simpa using t1
      have n1 : ¬ b = -1 := by simpa using t2
      have q1 := hq n1 n0
      rcases hop with rfl | rfl
      · have h : numE (arithR 21 a b) = .returned (.tuple #[.int .i64 (a.tdiv b), .int .i64 0]) := by
          unfold arithR
          rw [t1]
          exact fitE_yes q1.1 q1.2 rfl
        have hw : wrap64 (a.tdiv b) = a.tdiv b := by unfold wrap64; unfold Bd at q1; omega
        have Hw := hid hw
        clear hw
        rw [h]
        clear h q1 hq hr hx ha hb t3 n1
        go_enter Tryd.func39, Tryd.ntmps39
        go_wp2
        all_goals go_returns
        all_goals (refine ⟨?_, Gr.refl _⟩; first | rfl | (show Ending.returned (.tuple #[.int .i64 (wrap64 (a.tdiv b)), .int .i64 0]) = _; rw [Hw.out]))
      · have h : numE (arithR 22 a b) = .returned (.tuple #[.int .i64 (a.tmod b), .int .i64 0]) := by
          unfold arithR
          rw [t1]
          exact fitE_yes hr.1 hr.2 rfl
        have hw : wrap64 (a.tmod b) = a.tmod b := by unfold wrap64; unfold Bd at hr; omega
        have Hw := hid hw
        clear hw
        rw [h]
        clear h q1 hq hr hx ha hb t3 n1
        go_enter Tryd.func39, Tryd.ntmps39
        go_wp2
        all_goals go_returns
        all_goals (refine ⟨?_, Gr.refl _⟩; first | rfl | (show Ending.returned (.tuple #[.int .i64 (wrap64 (a.tmod b)), .int .i64 0]) = _; rw [Hw.out]))
    · have n1 : b = -1 := by simpa using t2
      subst n1
      rcases hop with rfl | rfl
      · have hw : b3 = false → wrap64 (-a) = -a := by
          intro h; subst h; simp at t3; unfold wrap64; unfold Bd at ha; omega
        have h : numE (arithR 21 a (-1)) = .returned (.tuple #[.int .i64 (if b3 then 0 else -a), .int .i64 (if b3 then 161 else 0)]) := by
          unfold arithR
          have : a.tdiv (-1) = -a := by rw [Int.tdiv_neg, Int.tdiv_one]
          simp only [this]
          cases b3
          · simp at t3; exact fitE_yes (by unfold Bd at ha; omega) (by unfold Bd at ha; omega) rfl
          · simp at t3; exact fitE_no (by omega)
        rw [h]
        clear h hq hr hx ha hb
        cases b3
        · have hw' := hw rfl
          clear hw
          go_enter Tryd.func39, Tryd.ntmps39
          go_wp2
          all_goals go_returns
          all_goals (refine ⟨?_, Gr.refl _⟩; first | rfl | (show Ending.returned (.tuple #[.int .i64 (wrap64 (-a)), .int .i64 0]) = _; rw [hw']; rfl))
        · clear hw
          go_enter Tryd.func39, Tryd.ntmps39
          go_wp2
          all_goals go_returns
          all_goals exact ⟨rfl, Gr.refl _⟩
      · have h : numE (arithR 22 a (-1)) = .returned (.tuple #[.int .i64 0, .int .i64 0]) := by
          unfold arithR
          have : a.tmod (-1) = 0 := by rw [Int.tmod_neg]; exact Int.tmod_one a
          show numE (fitR (a.tmod (-1))) = _
          rw [this]
          exact fitE_yes (n := 0) (by omega) (by omega) rfl
        rw [h]
        clear h hq hr hx ha hb
        go_enter Tryd.func39, Tryd.ntmps39
        go_wp2
        all_goals go_returns
        all_goals exact ⟨rfl, Gr.refl _⟩
  · have h : numE (arithR op a b) = .returned (.tuple #[.int .i64 0, .int .i64 162]) := by
      rcases hop with rfl | rfl <;> (unfold arithR; rw [t1]; rfl)
    rw [h]
    have o1 : (op == 18) = false := by simp; omega
    have o2 : (op == 19) = false := by simp; omega
    have o3 : (op == 20) = false := by simp; omega
    clear h hq hr hx ha hb t2 t3 hop
    go_enter Tryd.func39, Tryd.ntmps39
    go_wp2
    all_goals go_returns
    all_goals exact ⟨rfl, Gr.refl _⟩
theorem rnum_any (op a b : Int) (w : World) (ha : Bd a) (hb : Bd b) (h1 : 18 ≤ op) (h2 : op ≤ 22) : Calls Tryd.prog 39 #[.int .i64 op, .int .i64 a, .int .i64 b] w fun e w' => e = numE (arithR op a b) ∧ Gr w w' := by
  have h : op = 18 ∨ op = 19 ∨ op = 20 ∨ op = 21 ∨ op = 22 := by omega
  rcases h with rfl | rfl | rfl | rfl | rfl
  · exact grow_same (rnum_add a b w ha hb)
  · exact grow_same (rnum_sub a b w ha hb)
  · exact rnum_mul a b w ha hb
  · exact rnum_quo 21 a b w ha hb (.inl rfl)
  · exact rnum_quo 22 a b w ha hb (.inr rfl)
end Go.Proofs.YtefdkpfndjlpgaaDoor
