/- CostOrder: the law's walk. -/
import Derived.Test.YtemhfaknmagebaaDoorL3
namespace Go.Proofs.YtemhfaknmagebaaDoor
open Go.RowKit
set_option linter.unusedSimpArgs false
set_option linter.unusedVariables false
theorem and_twenty (x : Int) : ∃ g : Nat, g ≤ 1048575 ∧ bits .and .i64 x 1048575 = (g : Int) := by
  have h : (BitVec.ofInt 64 x &&& BitVec.ofInt 64 1048575).toNat = (BitVec.ofInt 64 x).toNat % 1048576 := by
    rw [BitVec.toNat_and]
    exact Nat.and_two_pow_sub_one_eq_mod _ 20
  have h4 : (BitVec.ofInt 64 x).toNat % 1048576 < 1048576 := Nat.mod_lt _ (by omega)
  refine ⟨(BitVec.ofInt 64 x).toNat % 1048576, by omega, ?_⟩
  show IntKind.i64.wrap ((BitVec.ofInt 64 x &&& BitVec.ofInt 64 1048575).toNat : Int) = _
  rw [h]
  generalize (BitVec.ofInt 64 x).toNat % 1048576 = m at h4 ⊢
  rw [IntKind.wrap_i64]; omega
theorem mod_thousand (x : Int) : ∃ N : Nat, N < 1000 ∧ (wrap64 (x.tmod 1000 + 1000)).tmod 1000 = (N : Int) := by
  have h1 := Int.tmod_lt_of_pos x (show (0 : Int) < 1000 by omega)
  have h3 := Int.lt_tmod_of_pos x (show (0 : Int) < 1000 by omega)
  generalize x.tmod 1000 = r at *
  have e : wrap64 (r + 1000) = r + 1000 := by
    simp only [wrap64]; omega
  rw [e, Int.tmod_eq_emod_of_nonneg (by omega)]
  exact ⟨((r + 1000) % 1000).toNat, by omega, by omega⟩
theorem of_small (a b : Nat) (ha : a ≤ 1048575) (hb : b ≤ 1048575) (w : World) : Calls Tryd.prog 9 #[.int .i64 a, .int .i64 b] w fun e w' => e = .returned (.complex .f64 (Fl.fw a) (Fl.fw b)) ∧ w = w' := by
  have := of_any a b w
  rwa [show bnd a = a by unfold bnd; omega, show bnd b = b by unfold bnd; omega] at this
/-- a loop that stays small -/
theorem loop_small (a b c d n : Nat) (x y : Nat) (hx : a + n * c = x) (hy : b + n * d = y) (ha : x ≤ 9007199254740992) (hb : y ≤ 9007199254740992) (hc : c ≤ 1048575) (hd : d ≤ 1048575) (hn : n ≤ 1000) (w : World) :
    Calls Tryd.prog 11 #[.complex .f64 (Fl.fw a) (Fl.fw b), .int .i64 n, .complex .f64 (Fl.fw c) (Fl.fw d)] w fun e w' => e = .returned (.complex .f64 (Fl.fw x) (Fl.fw y)) ∧ w = w' := by
  have := loop_any a b c d n w (by omega) (by omega) (by omega) (by omega) (by omega)
  rwa [show min (a + (n : Int).toNat * c) 9007199254740992 = x by rw [Int.toNat_natCast]; omega, show min (b + (n : Int).toNat * d) 9007199254740992 = y by rw [Int.toNat_natCast]; omega] at this
theorem eq_val (a b : Nat) (ha : a ≤ 9007199254740992) (hb : b ≤ 9007199254740992) : (FloatKind.f64.format.order (Fl.fw a) (Fl.fw b) == some .eq) = decide (a = b) := by
  rcases Nat.lt_trichotomy a b with h | h | h
  · rw [ord_lt ha hb h, decide_eq_false (by omega)]; rfl
  · subst h; rw [ord_eq ha]; simp
  · rw [ord_gt ha hb h, decide_eq_false (by omega)]; rfl
theorem mul_small {n a : Nat} (hn : n ≤ 1000) (ha : a ≤ 1048575) : n * a ≤ 1048575000 := by
  have := Nat.mul_le_mul hn ha
  omega
/-- how the three stand -/
theorem stands (xa xb ya yb za zb : Nat) :
    (lessB xa xb xa xb = false) ∧
    ((decide (xa = ya) && decide (xb = yb)) = true ∧ lessB xa xb ya yb = false ∨
     (decide (xa = ya) && decide (xb = yb)) = false ∧ lessB xa xb ya yb = true ∧ lessB ya yb xa xb = false ∧ (lessB ya yb za zb = false ∨ lessB xa xb za zb = true) ∨
     (decide (xa = ya) && decide (xb = yb)) = false ∧ lessB xa xb ya yb = false ∧ lessB ya yb xa xb = true) := by
  simp only [lessB, Bool.and_eq_true, Bool.or_eq_true, decide_eq_true_eq, Bool.or_eq_false_iff, Bool.and_eq_false_iff, decide_eq_false_iff_not]
  omega
set_option maxHeartbeats 8000000 in
set_option maxRecDepth 100000 in
theorem costOrder_any (a0 a1 b0 b1 c0 c1 rows : Int) (w : World) (ht : Tab w) : Calls Tryd.prog 4 #[.agg #[.int .i64 a0, .int .i64 a1], .agg #[.int .i64 b0, .int .i64 b1], .agg #[.int .i64 c0, .int .i64 c1], .int .i64 rows] w (Yes w) := by
  obtain ⟨xa, hxa, x1⟩ := and_twenty a0
  obtain ⟨xb, hxb, x2⟩ := and_twenty a1
  obtain ⟨ya, hya, y1⟩ := and_twenty b0
  obtain ⟨yb, hyb, y2⟩ := and_twenty b1
  obtain ⟨za, hza, z1⟩ := and_twenty c0
  obtain ⟨zb, hzb, z2⟩ := and_twenty c1
  obtain ⟨N, hN, hNe⟩ := mod_thousand rows
  have m1 := mul_small (n := N) (by omega) hya
  have m2 := mul_small (n := N) (by omega) hyb
  have m3 := mul_small (n := N) (by omega) hza
  have m4 := mul_small (n := N) (by omega) hzb
  have m5 := mul_small (n := N + 1) (by omega) hya
  have m6 := mul_small (n := N + 1) (by omega) hyb
  have O1 := fun W => (of_small xa xb hxa hxb W).mono (fun e w' (h : _ ∧ _) => (⟨h.1, h.2.symm⟩ : _ ∧ w' = W))
  have O2 := fun W => (of_small ya yb hya hyb W).mono (fun e w' (h : _ ∧ _) => (⟨h.1, h.2.symm⟩ : _ ∧ w' = W))
  have O3 := fun W => (of_small za zb hza hzb W).mono (fun e w' (h : _ ∧ _) => (⟨h.1, h.2.symm⟩ : _ ∧ w' = W))
  -- the sums, by name
  obtain ⟨la, hla⟩ : ∃ t, xa + N * ya = t := ⟨_, rfl⟩
  obtain ⟨lb, hlb⟩ : ∃ t, xb + N * yb = t := ⟨_, rfl⟩
  obtain ⟨ma, hma⟩ : ∃ t, xa + (N + 1) * ya = t := ⟨_, rfl⟩
  obtain ⟨mb, hmb⟩ : ∃ t, xb + (N + 1) * yb = t := ⟨_, rfl⟩
  obtain ⟨ka, hka⟩ : ∃ t, xa + N * za = t := ⟨_, rfl⟩
  obtain ⟨kb, hkb⟩ : ∃ t, xb + N * zb = t := ⟨_, rfl⟩
  obtain ⟨fa, hfa⟩ : ∃ t, la + N * za = t := ⟨_, rfl⟩
  obtain ⟨fb, hfb⟩ : ∃ t, lb + N * zb = t := ⟨_, rfl⟩
  have hfa' : ka + N * ya = fa := by omega
  have hfb' : kb + N * yb = fb := by omega
  have P1 := fun W => loop_small xa xb ya yb N la lb hla hlb (by omega) (by omega) hya hyb (by omega) W
  have P2 := fun W => loop_small xa xb ya yb (N + 1) ma mb hma hmb (by omega) (by omega) hya hyb (by omega) W
  have P3 := fun W => loop_small xa xb ya yb 0 xa xb (by omega) (by omega) (by omega) (by omega) hya hyb (by omega) W
  have P4 := fun W => loop_small 0 0 ya yb 1 ya yb (by omega) (by omega) (by omega) (by omega) hya hyb (by omega) W
  have P5 := fun W => loop_small xa xb za zb N ka kb hka hkb (by omega) (by omega) hza hzb (by omega) W
  have P6 := fun W => loop_small la lb za zb N fa fb hfa hfb (by omega) (by omega) hza hzb (by omega) W
  have P7 := fun W => loop_small ka kb ya yb N fa fb hfa' hfb' (by omega) (by omega) hya hyb (by omega) W
  rw [Fl.fw_zero] at P4
  simp only [Int.natCast_add, Int.cast_ofNat_Int] at P2 P3 P4
  have Q1 := fun W => less_any xa xb xa xb W (by omega) (by omega) (by omega) (by omega)
  have Q2 := fun W => less_any xa xb ya yb W (by omega) (by omega) (by omega) (by omega)
  have Q3 := fun W => less_any ya yb xa xb W (by omega) (by omega) (by omega) (by omega)
  have Q4 := fun W => less_any ya yb za zb W (by omega) (by omega) (by omega) (by omega)
  have Q5 := fun W => less_any xa xb za zb W (by omega) (by omega) (by omega) (by omega)
  have Q6 := fun W => less_any ma mb la lb W (by omega) (by omega) (by omega) (by omega)
  have Q7 := fun W => less_any ka kb la lb W (by omega) (by omega) (by omega) (by omega)
  have hs := stands xa xb ya yb za zb
  have h6 : lessB ma mb la lb = false := by
    have e1 : (N + 1) * ya = N * ya + ya := Nat.succ_mul _ _
    have e2 : (N + 1) * yb = N * yb + yb := Nat.succ_mul _ _
    simp only [lessB, Bool.or_eq_false_iff, Bool.and_eq_false_iff, decide_eq_false_iff_not]
    omega
  have h7 : lessB ya yb za zb = true → lessB ka kb la lb = false := by
    intro h
    simp only [lessB, Bool.and_eq_true, Bool.or_eq_true, decide_eq_true_eq, Bool.or_eq_false_iff, Bool.and_eq_false_iff, decide_eq_false_iff_not] at h ⊢
    rcases h with h | ⟨h, h'⟩
    · have e1 : N * ya ≤ N * za := Nat.mul_le_mul_left _ (by omega)
      by_cases h0 : N = 0
      · subst h0; omega
      · have e2 : N * (ya + 1) ≤ N * za := Nat.mul_le_mul_left _ (by omega)
        rw [Nat.mul_add] at e2
        omega
    · subst h
      have e2 : N * yb ≤ N * zb := Nat.mul_le_mul_left _ (by omega)
      omega
  have v1 := eq_val xa ya (by omega) (by omega)
  have v2 := eq_val xb yb (by omega) (by omega)
  have v3 := eq_val xa xa (by omega) (by omega)
  have v4 := eq_val xb xb (by omega) (by omega)
  have v5 := eq_val ya ya (by omega) (by omega)
  have v6 := eq_val yb yb (by omega) (by omega)
  have v7 := eq_val fa fa (by omega) (by omega)
  have v8 := eq_val fb fb (by omega) (by omega)
  rw [decide_eq_true rfl] at v3 v4 v5 v6 v7 v8
  obtain ⟨hs1, hs⟩ := hs
  rw [hs1] at Q1
  rw [h6] at Q6
  have Ht := hid ht
  have H7 := hid h7
  have Hhs := hid hs
  clear ht h7 hs h6 hs1 hla hlb hma hmb hka hkb hfa hfb hfa' hfb' m1 m2 m3 m4 m5 m6
  generalize Fl.fw xa = fxa at *
  generalize Fl.fw xb = fxb at *
  generalize Fl.fw ya = fya at *
  generalize Fl.fw yb = fyb at *
  generalize Fl.fw za = fza at *
  generalize Fl.fw zb = fzb at *
  generalize Fl.fw la = fla at *
  generalize Fl.fw lb = flb at *
  generalize Fl.fw ma = fma at *
  generalize Fl.fw mb = fmb at *
  generalize Fl.fw ka = fka at *
  generalize Fl.fw kb = fkb at *
  generalize Fl.fw fa = ffa at *
  generalize Fl.fw fb = ffb at *
  clear hxa hxb hya hyb hza hzb
  generalize (xa : Int) = ia at *
  generalize (xb : Int) = ib at *
  generalize (ya : Int) = ja at *
  generalize (yb : Int) = jb at *
  generalize (za : Int) = qa at *
  generalize (zb : Int) = qb at *
  go_enter Tryd.func4, Tryd.ntmps4
  go_wp2_with fail
  go_quiet ((first | (with_reducible exact Calls.quiet_of_same (O1 _)) | (with_reducible exact Calls.quiet_of_same (O2 _)) | (with_reducible exact Calls.quiet_of_same (O3 _))))
  have hg0 : Gr w ((((w.alloc (Obj.cells #[Value.int IntKind.i64 a0, Value.int IntKind.i64 a1] 27)).alloc (Obj.cells #[Value.int IntKind.i64 b0, Value.int IntKind.i64 b1] 27)).alloc (Obj.cells #[Value.int IntKind.i64 c0, Value.int IntKind.i64 c1] 27)).drewN nq) := ((((Gr.refl w).alloc _).alloc _).alloc _).drewN nq
  generalize ((((w.alloc (Obj.cells #[Value.int IntKind.i64 a0, Value.int IntKind.i64 a1] 27)).alloc (Obj.cells #[Value.int IntKind.i64 b0, Value.int IntKind.i64 b1] 27)).alloc (Obj.cells #[Value.int IntKind.i64 c0, Value.int IntKind.i64 c1] 27)).drewN nq) = W0 at *
  have A := awake_any W0 (Ht.out.keep hg0)
  have hs := Hhs.out
  have h7 := H7.out
  clear O1 O2 O3 x1 x2 y1 y2 z1 z2 Hhs H7 Ht
  generalize lessB xa xb ya yb = b1 at *
  generalize lessB ya yb xa xb = b2 at *
  generalize lessB ya yb za zb = b3 at *
  generalize lessB xa xb za zb = b4 at *
  generalize lessB ka kb la lb = b5 at *
  generalize decide (xa = ya) = e1 at *
  generalize decide (xb = yb) = e2 at *
  cases b3
  all_goals
    (try have h8 := h7 rfl)
    (try subst h8)
    clear h7
    rcases hs with ⟨h1, h2⟩ | ⟨h1, h2, h3, h4⟩ | ⟨h1, h2, h3⟩
  case false.inl | true.inl =>
    obtain ⟨rfl, rfl⟩ := Bool.and_eq_true_iff.1 h1
    subst h2
    clear h1
    go_wp2_with (first | (go_at_call 10; ((with_reducible refine (Q1 _).mono ?_)); rintro e w' ⟨rfl, rfl⟩) | (go_at_call 10; ((with_reducible refine (Q2 _).mono ?_)); rintro e w' ⟨rfl, rfl⟩) | (go_at_call 10; ((with_reducible refine (Q3 _).mono ?_)); rintro e w' ⟨rfl, rfl⟩) | (go_at_call 10; ((with_reducible refine (Q4 _).mono ?_)); rintro e w' ⟨rfl, rfl⟩) | (go_at_call 10; ((with_reducible refine (Q5 _).mono ?_)); rintro e w' ⟨rfl, rfl⟩) | (go_at_call 10; ((with_reducible refine (Q6 _).mono ?_)); rintro e w' ⟨rfl, rfl⟩) | (go_at_call 10; ((with_reducible refine (Q7 _).mono ?_)); rintro e w' ⟨rfl, rfl⟩) | (go_at_call 11; ((with_reducible refine (P1 _).mono ?_)); rintro e w' ⟨rfl, rfl⟩) | (go_at_call 11; ((with_reducible refine (P2 _).mono ?_)); rintro e w' ⟨rfl, rfl⟩) | (go_at_call 11; ((with_reducible refine (P3 _).mono ?_)); rintro e w' ⟨rfl, rfl⟩) | (go_at_call 11; ((with_reducible refine (P4 _).mono ?_)); rintro e w' ⟨rfl, rfl⟩) | (go_at_call 11; ((with_reducible refine (P5 _).mono ?_)); rintro e w' ⟨rfl, rfl⟩) | (go_at_call 11; ((with_reducible refine (P6 _).mono ?_)); rintro e w' ⟨rfl, rfl⟩) | (go_at_call 11; ((with_reducible refine (P7 _).mono ?_)); rintro e w' ⟨rfl, rfl⟩) | (go_at_call 8; ((with_reducible refine (A).mono ?_)); rintro e w' ⟨rfl, hg⟩; have hc := hg.cells; have hf := hg.frees; have hz := hg.size; (try simp only [World.size_alloc, World.size_setCell, World.size_drew] at hz); (try have : 0 < w'.heap.size := by omega); (try have : w.heap.size < w'.heap.size := by omega)))
    all_goals
      (try (go_step3; (try simp only [Exit.then]); (try change Rg.once _ _ _ _ _ _); rw [Rg.once_goto]; go_wp2))
      (try rw [Rg.once_ret])
      (try rw [Exit.noGoto_ret])
      (try change bodyPost _ _ _ _ _ _)
      first
      | (go_returns; refine ⟨?_, ?_⟩)
      | (refine bodyPost_ret (by simp [results, Tryd.results4, go_sem, *]; try rfl) rfl ⟨?_, ?_⟩)
      rotate_left
      · repeat' (first | exact Gr.refl _ | exact Nat.le_refl _ | exact Nat.le_add_right _ _ | refine Gr.setCell ?_ ?_ _ | refine Gr.alloc ?_ _ | refine Gr.drew ?_ | refine Gr.trans ?_ (by assumption) | omega | (dsimp only; omega))
    all_goals rfl
  case false.inr.inl | true.inr.inl =>
    subst h2 h3
    rcases h4 with h4 | rfl
    all_goals (try cases h4)
    all_goals cases e1 <;> cases e2 <;> simp only [Bool.and_self, Bool.and_false, Bool.false_and, Bool.true_eq_false, reduceCtorEq] at h1
    all_goals
      go_wp2_with (first | (go_at_call 10; ((with_reducible refine (Q1 _).mono ?_)); rintro e w' ⟨rfl, rfl⟩) | (go_at_call 10; ((with_reducible refine (Q2 _).mono ?_)); rintro e w' ⟨rfl, rfl⟩) | (go_at_call 10; ((with_reducible refine (Q3 _).mono ?_)); rintro e w' ⟨rfl, rfl⟩) | (go_at_call 10; ((with_reducible refine (Q4 _).mono ?_)); rintro e w' ⟨rfl, rfl⟩) | (go_at_call 10; ((with_reducible refine (Q5 _).mono ?_)); rintro e w' ⟨rfl, rfl⟩) | (go_at_call 10; ((with_reducible refine (Q6 _).mono ?_)); rintro e w' ⟨rfl, rfl⟩) | (go_at_call 10; ((with_reducible refine (Q7 _).mono ?_)); rintro e w' ⟨rfl, rfl⟩) | (go_at_call 11; ((with_reducible refine (P1 _).mono ?_)); rintro e w' ⟨rfl, rfl⟩) | (go_at_call 11; ((with_reducible refine (P2 _).mono ?_)); rintro e w' ⟨rfl, rfl⟩) | (go_at_call 11; ((with_reducible refine (P3 _).mono ?_)); rintro e w' ⟨rfl, rfl⟩) | (go_at_call 11; ((with_reducible refine (P4 _).mono ?_)); rintro e w' ⟨rfl, rfl⟩) | (go_at_call 11; ((with_reducible refine (P5 _).mono ?_)); rintro e w' ⟨rfl, rfl⟩) | (go_at_call 11; ((with_reducible refine (P6 _).mono ?_)); rintro e w' ⟨rfl, rfl⟩) | (go_at_call 11; ((with_reducible refine (P7 _).mono ?_)); rintro e w' ⟨rfl, rfl⟩) | (go_at_call 8; ((with_reducible refine (A).mono ?_)); rintro e w' ⟨rfl, hg⟩; have hc := hg.cells; have hf := hg.frees; have hz := hg.size; (try simp only [World.size_alloc, World.size_setCell, World.size_drew] at hz); (try have : 0 < w'.heap.size := by omega); (try have : w.heap.size < w'.heap.size := by omega)))
      all_goals
        (try (go_step3; (try simp only [Exit.then]); (try change Rg.once _ _ _ _ _ _); rw [Rg.once_goto]; go_wp2))
        (try rw [Rg.once_ret])
        (try rw [Exit.noGoto_ret])
        (try change bodyPost _ _ _ _ _ _)
        first
        | (go_returns; refine ⟨?_, ?_⟩)
        | (refine bodyPost_ret (by simp [results, Tryd.results4, go_sem, *]; try rfl) rfl ⟨?_, ?_⟩)
        rotate_left
        · repeat' (first | exact Gr.refl _ | exact Nat.le_refl _ | exact Nat.le_add_right _ _ | refine Gr.setCell ?_ ?_ _ | refine Gr.alloc ?_ _ | refine Gr.drew ?_ | refine Gr.trans ?_ (by assumption) | omega | (dsimp only; omega))
      rfl
  case false.inr.inr | true.inr.inr =>
    subst h2 h3
    cases e1 <;> cases e2 <;> simp only [Bool.and_self, Bool.and_false, Bool.false_and, Bool.true_eq_false, reduceCtorEq] at h1
    all_goals
      go_wp2_with (first | (go_at_call 10; ((with_reducible refine (Q1 _).mono ?_)); rintro e w' ⟨rfl, rfl⟩) | (go_at_call 10; ((with_reducible refine (Q2 _).mono ?_)); rintro e w' ⟨rfl, rfl⟩) | (go_at_call 10; ((with_reducible refine (Q3 _).mono ?_)); rintro e w' ⟨rfl, rfl⟩) | (go_at_call 10; ((with_reducible refine (Q4 _).mono ?_)); rintro e w' ⟨rfl, rfl⟩) | (go_at_call 10; ((with_reducible refine (Q5 _).mono ?_)); rintro e w' ⟨rfl, rfl⟩) | (go_at_call 10; ((with_reducible refine (Q6 _).mono ?_)); rintro e w' ⟨rfl, rfl⟩) | (go_at_call 10; ((with_reducible refine (Q7 _).mono ?_)); rintro e w' ⟨rfl, rfl⟩) | (go_at_call 11; ((with_reducible refine (P1 _).mono ?_)); rintro e w' ⟨rfl, rfl⟩) | (go_at_call 11; ((with_reducible refine (P2 _).mono ?_)); rintro e w' ⟨rfl, rfl⟩) | (go_at_call 11; ((with_reducible refine (P3 _).mono ?_)); rintro e w' ⟨rfl, rfl⟩) | (go_at_call 11; ((with_reducible refine (P4 _).mono ?_)); rintro e w' ⟨rfl, rfl⟩) | (go_at_call 11; ((with_reducible refine (P5 _).mono ?_)); rintro e w' ⟨rfl, rfl⟩) | (go_at_call 11; ((with_reducible refine (P6 _).mono ?_)); rintro e w' ⟨rfl, rfl⟩) | (go_at_call 11; ((with_reducible refine (P7 _).mono ?_)); rintro e w' ⟨rfl, rfl⟩) | (go_at_call 8; ((with_reducible refine (A).mono ?_)); rintro e w' ⟨rfl, hg⟩; have hc := hg.cells; have hf := hg.frees; have hz := hg.size; (try simp only [World.size_alloc, World.size_setCell, World.size_drew] at hz); (try have : 0 < w'.heap.size := by omega); (try have : w.heap.size < w'.heap.size := by omega)))
      all_goals
        (try (go_step3; (try simp only [Exit.then]); (try change Rg.once _ _ _ _ _ _); rw [Rg.once_goto]; go_wp2))
        (try rw [Rg.once_ret])
        (try rw [Exit.noGoto_ret])
        (try change bodyPost _ _ _ _ _ _)
        first
        | (go_returns; refine ⟨?_, ?_⟩)
        | (refine bodyPost_ret (by simp [results, Tryd.results4, go_sem, *]; try rfl) rfl ⟨?_, ?_⟩)
        rotate_left
        · repeat' (first | exact Gr.refl _ | exact Nat.le_refl _ | exact Nat.le_add_right _ _ | refine Gr.setCell ?_ ?_ _ | refine Gr.alloc ?_ _ | refine Gr.drew ?_ | refine Gr.trans ?_ (by assumption) | omega | (dsimp only; omega))
      rfl
end Go.Proofs.YtemhfaknmagebaaDoor
