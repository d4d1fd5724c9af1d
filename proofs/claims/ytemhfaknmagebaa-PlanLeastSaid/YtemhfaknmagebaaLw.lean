/- plan, plain: the walk through all plans, and that its best costs least. -/
import Derived.Test.YtemhfaknmagebaaH3
namespace Go.Proofs.Ytemhfaknmagebaa
open Go.RowKit
set_option linter.unusedSimpArgs false
set_option linter.unusedVariables false
def rowsOf (stats : List Tb) (t c : Int) : Int := match stats[t.toNat]? with
  | none => 0
  | some s => (probeL s.rows c s.ix).getD 0
def probesR (stats : List Tb) (preds : List Pr) (x : St) (t : Int) : Nat → List Pr → Int → List St
  | _, [], _ => []
  | i, p :: r, least => if p.t = t then match withR x (t, (i : Int)) stats preds with
      | none => probesR stats preds x t (i + 1) r least
      | some y => if least < 0 ∨ rowsOf stats t p.c < least then y :: probesR stats preds x t (i + 1) r (rowsOf stats t p.c) else probesR stats preds x t (i + 1) r least
    else probesR stats preds x t (i + 1) r least
def waysR (stats : List Tb) (preds : List Pr) (x : St) (t : Int) : List St := (withR x (t, -1) stats preds).toList ++ probesR stats preds x t 0 preds (-1)
def lessS (x y : St) : Bool := lessB x.a x.b y.a y.b
def winsR (ah : List (Int × Int) → List (Int × Int) → Bool) (x b : St) : Bool := b.l.isEmpty || (lessS x b || ((decide (x.a = b.a) && decide (x.b = b.b)) && ah x.l b.l))
def walkR (ah : List (Int × Int) → List (Int × Int) → Bool) (stats : List Tb) (preds : List Pr) : Nat → St → St → St
  | 0, x, b => if (!b.l.isEmpty && lessS b x) = true then b else if x.l.length = stats.length then (if winsR ah x b = true then x else b) else b
  | f + 1, x, b => if (!b.l.isEmpty && lessS b x) = true then b else if x.l.length = stats.length then (if winsR ah x b = true then x else b) else
      (List.range stats.length).foldl (fun (b : St) (t : Nat) => if hasP (t : Int) x.l = true then b else (waysR stats preds x (t : Int)).foldl (fun b y => walkR ah stats preds f y b) b) b
def st0 : St := ⟨[], 0, 0, 1⟩
def none0 : St := ⟨[], 0, 0, 0⟩
def bestR (ah : List (Int × Int) → List (Int × Int) → Bool) (stats : List Tb) (preds : List Pr) : St := walkR ah stats preds stats.length st0 none0
def runR (stats : List Tb) (preds : List Pr) : St → List (Int × Int) → Option St
  | x, [] => some x
  | x, p :: r => match withR x p stats preds with
    | none => none
    | some y => runR stats preds y r
/-! ### what with does -/
theorem timesI_min (a b : Int) : timesI a b = min (max a 0 * max b 0) 1099511627776 := by
  unfold timesI
  split
  · rename_i h
    have h1 : ¬ max a 0 ≤ 1099511627776 / max b 0 := by omega
    rw [Int.le_ediv_iff_mul_le h.1] at h1
    omega
  · rfl
theorem timesI_mono {a b a' b' : Int} (h : a' ≤ a) (h' : b' ≤ b) : timesI a' b' ≤ timesI a b := by
  rw [timesI_min, timesI_min]
  have : max a' 0 * max b' 0 ≤ max a 0 * max b 0 := Int.mul_le_mul (by omega) (by omega) (by omega) (by omega)
  omega
theorem with_shape {x y : St} {p : Int × Int} {stats : List Tb} {preds : List Pr} (h : withR x p stats preds = some y) :
    0 ≤ p.1 ∧ p.1 < stats.length ∧ hasP p.1 x.l = false ∧ -1 ≤ p.2 ∧ p.2 < preds.length ∧ ∃ t, stats[p.1.toNat]? = some t ∧ withIn x p t preds = some y := by
  unfold withR at h
  split at h
  · cases h
  · rename_i hc
    simp only [not_or, Bool.not_eq_true] at hc
    refine ⟨by omega, by omega, hc.2.2.1, by omega, by omega, ?_⟩
    split at h
    · cases h
    · rename_i t ht; exact ⟨t, ht, h⟩
theorem with_of {x : St} {p : Int × Int} {stats : List Tb} {preds : List Pr} {t : Tb} (h0 : 0 ≤ p.1) (h1 : p.1 < stats.length) (h2 : hasP p.1 x.l = false) (h3 : -1 ≤ p.2) (h4 : p.2 < preds.length) (h5 : stats[p.1.toNat]? = some t) :
    withR x p stats preds = withIn x p t preds := by
  unfold withR
  rw [if_neg (by rw [h2]; simp; omega), h5]
/-- the state is x with one more path, at a cost and a number of rows -/
theorem with_add {x y : St} {p : Int × Int} {t : Tb} {preds : List Pr} (h : withIn x p t preds = some y) : ∃ c d rows, y = addR x p c d rows ∧
    ∀ x' : St, (∀ k, hasP k x'.l = hasP k x.l) → withIn x' p t preds = some (addR x' p c d rows) := by
  unfold withIn at h
  split at h
  · rename_i h0
    cases h
    exact ⟨_, _, _, rfl, fun x' _ => by unfold withIn; rw [if_pos h0]⟩
  · rename_i h0
    split at h
    · cases h
    · rename_i q hq
      split at h
      · cases h
      · rename_i hc
        split at h
        · cases h
        · rename_i r hr
          cases h
          refine ⟨_, _, _, rfl, fun x' hx => ?_⟩
          unfold withIn
          rw [if_neg h0, hq]
          simp only
          rw [hx, if_neg hc, hr]
theorem with_l {x y : St} {p : Int × Int} {stats : List Tb} {preds : List Pr} (h : withR x p stats preds = some y) : y.l = x.l ++ [p] := by
  obtain ⟨_, _, _, _, _, t, _, h⟩ := with_shape h
  obtain ⟨c, d, rows, rfl, _⟩ := with_add h
  rfl
def Sm (x : St) : Prop := x.a ≤ 9007199254740992 ∧ x.b ≤ 9007199254740992
theorem with_sm {x y : St} {p : Int × Int} {stats : List Tb} {preds : List Pr} (hs : Sm x) (h : withR x p stats preds = some y) : Sm y ∧ x.a ≤ y.a ∧ x.b ≤ y.b := by
  obtain ⟨_, _, _, _, _, t, _, h⟩ := with_shape h
  obtain ⟨c, d, rows, rfl, _⟩ := with_add h
  unfold Sm at *
  simp only [addR]
  generalize x.rows.toNat * c = u
  generalize x.rows.toNat * d = v
  omega
theorem with_rows {x y : St} {p : Int × Int} {stats : List Tb} {preds : List Pr} (h : withR x p stats preds = some y) : 0 ≤ y.rows ∧ y.rows ≤ 1099511627776 := by
  obtain ⟨_, _, _, _, _, t, _, h⟩ := with_shape h
  obtain ⟨c, d, rows, rfl, _⟩ := with_add h
  exact times_bd _ _
theorem run_l {stats : List Tb} {preds : List Pr} : ∀ {r : List (Int × Int)} {x s : St}, runR stats preds x r = some s → s.l = x.l ++ r
  | [], x, s, h => by cases h; simp
  | p :: r, x, s, h => by
    unfold runR at h
    split at h
    · cases h
    · rename_i y hy
      rw [run_l h, with_l hy]; simp
theorem run_sm {stats : List Tb} {preds : List Pr} : ∀ {r : List (Int × Int)} {x s : St}, Sm x → runR stats preds x r = some s → Sm s ∧ x.a ≤ s.a ∧ x.b ≤ s.b
  | [], x, s, hs, h => by cases h; exact ⟨hs, Nat.le_refl _, Nat.le_refl _⟩
  | p :: r, x, s, hs, h => by
    unfold runR at h
    split at h
    · cases h
    · rename_i y hy
      have h1 := with_sm hs hy
      have h2 := run_sm h1.1 h
      exact ⟨h2.1, by omega, by omega⟩
theorem run_snoc {stats : List Tb} {preds : List Pr} : ∀ {r : List (Int × Int)} {x s y : St} {p : Int × Int}, runR stats preds x r = some s → withR s p stats preds = some y → runR stats preds x (r ++ [p]) = some y
  | [], x, s, y, p, h, hy => by cases h; simp [runR, hy]
  | q :: r, x, s, y, p, h, hy => by
    unfold runR at h
    split at h
    · cases h
    · rename_i z hz
      rw [List.cons_append]
      unfold runR
      rw [hz]
      exact run_snoc h hy
/-! ### one plan is as good as another -/
structure Dom (x x' : St) : Prop where
  has : ∀ t, hasP t x'.l = hasP t x.l
  len : x'.l.length = x.l.length
  a : x'.a ≤ x.a
  b : x'.b ≤ x.b
  rows : x'.rows ≤ x.rows
theorem hasP_snoc (t : Int) (l : List (Int × Int)) (p : Int × Int) : hasP t (l ++ [p]) = (hasP t l || (p.1 == t)) := by simp [hasP]
theorem add_dom {x x' : St} {p p' : Int × Int} {c d c' d' : Nat} {r r' : Int} (h : Dom x x') (hp : p'.1 = p.1) (hc : c' ≤ c) (hd : d' ≤ d) (hr : r' ≤ r) : Dom (addR x p c d r) (addR x' p' c' d' r') := by
  have h1 : x'.rows.toNat ≤ x.rows.toNat := by have := h.rows; omega
  refine ⟨fun t => ?_, ?_, ?_, ?_, timesI_mono h.rows hr⟩
  · simp only [addR]; rw [hasP_snoc, hasP_snoc, h.has, hp]
  · simp only [addR, List.length_append, h.len]; rfl
  · have := Nat.mul_le_mul h1 hc
    have := h.a
    simp only [addR]; omega
  · have := Nat.mul_le_mul h1 hd
    have := h.b
    simp only [addR]; omega
theorem Dom.refl (x : St) : Dom x x := ⟨fun _ => rfl, rfl, Nat.le_refl _, Nat.le_refl _, Int.le_refl _⟩
theorem with_dom {x x' y : St} {p : Int × Int} {stats : List Tb} {preds : List Pr} (hd : Dom x x') (h : withR x p stats preds = some y) : ∃ y', withR x' p stats preds = some y' ∧ Dom y y' := by
  obtain ⟨h0, h1, h2, h3, h4, t, ht, h⟩ := with_shape h
  obtain ⟨c, d, rows, rfl, hx⟩ := with_add h
  refine ⟨_, ?_, add_dom hd rfl (Nat.le_refl _) (Nat.le_refl _) (Int.le_refl _)⟩
  rw [with_of h0 h1 (by rw [hd.has]; exact h2) h3 h4 ht]
  exact hx x' hd.has
theorem run_dom {stats : List Tb} {preds : List Pr} : ∀ {r : List (Int × Int)} {x x' s : St}, Dom x x' → runR stats preds x r = some s → ∃ s', runR stats preds x' r = some s' ∧ Dom s s'
  | [], x, x', s, hd, h => by cases h; exact ⟨x', rfl, hd⟩
  | p :: r, x, x', s, hd, h => by
    unfold runR at h
    split at h
    · cases h
    · rename_i y hy
      obtain ⟨y', hy', hd'⟩ := with_dom hd hy
      obtain ⟨s', hs', hd''⟩ := run_dom hd' h
      exact ⟨s', by unfold runR; rw [hy']; exact hs', hd''⟩
theorem bnd_mono {a b : Int} (h : a ≤ b) : bnd a ≤ bnd b := by unfold bnd; omega
/-- probed by pred j -/
theorem with_probe_of {x y : St} {t j : Int} {stats : List Tb} {preds : List Pr} (hj : 0 ≤ j) (h : withR x (t, j) stats preds = some y) :
    ∃ q, preds[j.toNat]? = some q ∧ q.t = t ∧ y = addR x (t, j) (bnd (2 + min (rowsOf stats t q.c) 1099511627776)) (bnd (rowsOf stats t q.c)) (rowsOf stats t q.c) := by
  obtain ⟨h0, h1, h2, h3, h4, tb, ht, h⟩ := with_shape h
  unfold withIn at h
  rw [if_neg (show ¬ j < 0 by omega)] at h
  simp only at h
  split at h
  · cases h
  · rename_i q hq
    split at h
    · cases h
    · rename_i hc
      split at h
      · cases h
      · rename_i r hr
        cases h
        have e : rowsOf stats t q.c = r := by
          unfold rowsOf
          simp only at ht
          rw [ht]; simp only; rw [hr]; rfl
        refine ⟨q, hq, ?_⟩
        rw [e]
        exact ⟨Classical.byContradiction fun hne => hc (.inl hne), rfl⟩
theorem probes_dom {stats : List Tb} {preds : List Pr} {x : St} {t : Int} : ∀ (r : List Pr) (i : Nat) (least : Int), preds.drop i = r → ∀ (j : Nat) (q : Pr) (y : St), i ≤ j → preds[j]? = some q → withR x (t, (j : Int)) stats preds = some y →
    (∃ y' ∈ probesR stats preds x t i r least, Dom y y') ∨ (0 ≤ least ∧ least ≤ rowsOf stats t q.c)
  | [], i, least, hr, j, q, y, hij, hq, hy => by
    have h1 : j < preds.length := (List.getElem?_eq_some_iff.1 hq).1
    have h2 := List.drop_eq_nil_iff.1 hr
    omega
  | p :: r, i, least, hr, j, q, y, hij, hq, hy => by
    have hil : i < preds.length := by
      refine Classical.byContradiction fun hno => ?_
      rw [List.drop_eq_nil_iff.2 (by omega)] at hr; cases hr
    have hp : preds[i]? = some p := by
      have := congrArg List.head? hr
      simpa [List.head?_drop] using this
    have hr' : preds.drop (i + 1) = r := by
      have := congrArg List.tail hr
      simpa using this
    have ih := fun least' (hj : i + 1 ≤ j) => probes_dom r (i + 1) least' hr' j q y hj hq hy
    obtain ⟨q', hq', hqt, hyq⟩ := with_probe_of (by omega) hy
    have eq' : q' = q := by simpa [hq] using hq'.symm
    subst eq'
    by_cases hji : j = i
    · subst hji
      have epq : p = q' := by rw [hp] at hq; exact Option.some.inj hq
      subst epq
      unfold probesR
      rw [if_pos hqt, hy]
      simp only
      by_cases hl : least < 0 ∨ rowsOf stats t p.c < least
      · rw [if_pos hl]; exact .inl ⟨y, by simp, Dom.refl y⟩
      · right; omega
    · have hj : i + 1 ≤ j := by omega
      unfold probesR
      by_cases hpt : p.t = t
      · rw [if_pos hpt]
        split
        · exact ih _ hj
        · rename_i y0 hy0
          by_cases hl : least < 0 ∨ rowsOf stats t p.c < least
          · rw [if_pos hl]
            rcases ih (rowsOf stats t p.c) hj with ⟨y', hm, hd⟩ | hle
            · exact .inl ⟨y', by simp [hm], hd⟩
            · obtain ⟨p', hp', _, hy0q⟩ := with_probe_of (by omega) hy0
              have ep : p' = p := by simpa [hp] using hp'.symm
              subst ep
              refine .inl ⟨y0, by simp, ?_⟩
              rw [hyq, hy0q]
              exact add_dom (Dom.refl x) rfl (bnd_mono (by omega)) (bnd_mono hle.2) hle.2
          · rw [if_neg hl]; exact ih _ hj
      · rw [if_neg hpt]; exact ih _ hj
theorem ways_dom {stats : List Tb} {preds : List Pr} {x y : St} {p : Int × Int} (h : withR x p stats preds = some y) : ∃ y' ∈ waysR stats preds x p.1, Dom y y' := by
  obtain ⟨t, j⟩ := p
  have hs := with_shape h
  by_cases hj : j < 0
  · have e : j = -1 := by have := hs.2.2.2.1; simp only at this; omega
    subst e
    exact ⟨y, by unfold waysR; rw [h]; simp, Dom.refl y⟩
  · obtain ⟨q, hq, _, _⟩ := with_probe_of (by omega) h
    rcases probes_dom preds 0 (-1) rfl j.toNat q y (Nat.zero_le _) hq (by rw [Int.toNat_of_nonneg (by omega)]; exact h) with ⟨y', hm, hd⟩ | hle
    · exact ⟨y', by unfold waysR; simp [hm], hd⟩
    · omega
theorem probes_from {stats : List Tb} {preds : List Pr} {x y : St} {t : Int} : ∀ (r : List Pr) (i : Nat) (least : Int), y ∈ probesR stats preds x t i r least → ∃ j : Int, withR x (t, j) stats preds = some y
  | [], i, least, h => by simp [probesR] at h
  | p :: r, i, least, h => by
    unfold probesR at h
    split at h
    · split at h
      · exact probes_from r _ _ h
      · rename_i y0 hy0
        split at h
        · rcases List.mem_cons.1 h with rfl | h
          · exact ⟨_, hy0⟩
          · exact probes_from r _ _ h
        · exact probes_from r _ _ h
    · exact probes_from r _ _ h
theorem ways_from {stats : List Tb} {preds : List Pr} {x y : St} {t : Int} (h : y ∈ waysR stats preds x t) : ∃ j : Int, withR x (t, j) stats preds = some y := by
  unfold waysR at h
  rcases List.mem_append.1 h with h | h
  · exact ⟨-1, by simpa using h⟩
  · exact probes_from _ _ _ h
/-! ### the walk -/
theorem lessS_self (x : St) : lessS x x = false := by simp [lessS, lessB]
theorem lessS_iff {x y : St} : lessS x y = true ↔ x.a < y.a ∨ (x.a = y.a ∧ x.b < y.b) := by simp [lessS, lessB]
theorem lessS_not {x y : St} : lessS x y = false ↔ ¬ (x.a < y.a ∨ (x.a = y.a ∧ x.b < y.b)) := by rw [← lessS_iff]; simp
/-- B is no worse than b -/
def Le (b B : St) : Prop := b.l ≠ [] → B.l ≠ [] ∧ lessS b B = false
/-- B is a plan, and s is not below it -/
def Good (s B : St) : Prop := B.l ≠ [] ∧ lessS s B = false
theorem Le.refl (b : St) : Le b b := fun h => ⟨h, lessS_self b⟩
theorem Le.trans {a b c : St} (h : Le a b) (k : Le b c) : Le a c := fun ha => by
  obtain ⟨h1, h2⟩ := h ha
  obtain ⟨h3, h4⟩ := k h1
  refine ⟨h3, ?_⟩
  rw [lessS_not] at *
  omega
theorem Good.le {s b B : St} (h : Good s b) (k : Le b B) : Good s B := by
  obtain ⟨h3, h4⟩ := k h.1
  refine ⟨h3, ?_⟩
  have h2 := h.2
  rw [lessS_not] at *
  omega
theorem fold_le {α : Type} {g : St → α → St} (h : ∀ b y, Le b (g b y)) : ∀ (l : List α) (b : St), Le b (l.foldl g b)
  | [], b => Le.refl b
  | y :: r, b => (h b y).trans (fold_le h r _)
theorem fold_good {α : Type} {g : St → α → St} {s : St} (h : ∀ b y, Le b (g b y)) {y : α} (hy : ∀ b, Good s (g b y)) : ∀ (l : List α) (b : St), y ∈ l → Good s (l.foldl g b)
  | [], b, hm => by simp at hm
  | z :: r, b, hm => by
    rcases List.mem_cons.1 hm with rfl | hm
    · exact (hy b).le (fold_le h r _)
    · exact fold_good h hy r _ hm
section
variable {ah : List (Int × Int) → List (Int × Int) → Bool} {stats : List Tb} {preds : List Pr}
theorem wins_le {x b : St} (hx : x.l ≠ []) (h : ¬ (!b.l.isEmpty && lessS b x) = true) : Le b (if winsR ah x b = true then x else b) := by
  split
  · intro hb
    refine ⟨hx, ?_⟩
    cases e : lessS b x
    · rfl
    · exact absurd (by simp [hb, e]) h
  · exact Le.refl b
theorem walk_le (hn : 1 ≤ stats.length) : ∀ (f : Nat) (x b : St), Le b (walkR ah stats preds f x b)
  | 0, x, b => by
    unfold walkR
    split
    · exact Le.refl b
    · rename_i h
      split
      · rename_i h2
        exact wins_le (fun e => by rw [e] at h2; simp at h2; omega) h
      · exact Le.refl b
  | f + 1, x, b => by
    unfold walkR
    split
    · exact Le.refl b
    · rename_i h
      split
      · rename_i h2
        exact wins_le (fun e => by rw [e] at h2; simp at h2; omega) h
      · refine fold_le (fun b t => ?_) _ _
        split
        · exact Le.refl b
        · exact fold_le (fun b y => walk_le hn f y b) _ _
theorem wins_good {x b : St} (hx : x.l ≠ []) : Good x (if winsR ah x b = true then x else b) := by
  split
  · exact ⟨hx, lessS_self x⟩
  · rename_i h
    unfold winsR at h
    simp only [Bool.or_eq_true, not_or, Bool.not_eq_true, List.isEmpty_eq_false_iff] at h
    exact ⟨h.1, h.2.1⟩
theorem good_cut {x b s : St} {r : List (Int × Int)} (hx : Sm x) (hr : runR stats preds x r = some s) (h : (!b.l.isEmpty && lessS b x) = true) : Good s b := by
  have hm := run_sm hx hr
  simp only [Bool.and_eq_true, Bool.not_eq_true', List.isEmpty_eq_false_iff] at h
  refine ⟨h.1, ?_⟩
  have h2 := h.2
  rw [lessS_iff] at h2
  rw [lessS_not]
  omega
theorem good_full (hn : 1 ≤ stats.length) {x b s : St} {r : List (Int × Int)} (hr : runR stats preds x r = some s) (hs : s.l.length = stats.length) (h : x.l.length = stats.length) : Good s (if winsR ah x b = true then x else b) := by
  have h1 : r = [] := List.eq_nil_of_length_eq_zero (by rw [run_l hr, List.length_append] at hs; omega)
  subst h1
  cases hr
  exact wins_good (fun e => by rw [e] at h; simp at h; omega)
theorem walk_good (hn : 1 ≤ stats.length) : ∀ (f : Nat) (x b s : St) (r : List (Int × Int)), Sm x → runR stats preds x r = some s → s.l.length = stats.length → r.length ≤ f → Good s (walkR ah stats preds f x b)
  | 0, x, b, s, r, hx, hr, hs, hf => by
    have h1 : r = [] := List.eq_nil_of_length_eq_zero (by omega)
    have h2 : x.l.length = stats.length := by rw [run_l hr, h1, List.append_nil] at hs; exact hs
    unfold walkR
    split
    · rename_i h; exact good_cut hx hr h
    · first
      | exact good_full hn hr hs h2
      | (rw [if_pos h2]; exact good_full hn hr hs h2)
  | f + 1, x, b, s, r, hx, hr, hs, hf => by
    unfold walkR
    split
    · rename_i h; exact good_cut hx hr h
    · split
      · rename_i h; exact good_full hn hr hs h
      · rename_i hnf
        cases r with
        | nil => rw [run_l hr, List.append_nil] at hs; exact absurd hs hnf
        | cons p r =>
          unfold runR at hr
          split at hr
          · cases hr
          · rename_i y hy
            obtain ⟨y', hym, hd⟩ := ways_dom hy
            obtain ⟨s', hs', hd'⟩ := run_dom hd hr
            obtain ⟨h0, h1, h2, _⟩ := with_shape hy
            obtain ⟨j, hj⟩ := ways_from hym
            have hsm : Sm y' := (with_sm hx hj).1
            have ht : ((p.1.toNat : Nat) : Int) = p.1 := Int.toNat_of_nonneg h0
            have hf' : r.length ≤ f := by simpa using hf
            refine fold_good (y := p.1.toNat) (fun b t => ?_) (fun b => ?_) _ _ (List.mem_range.2 (by omega))
            · split
              · exact Le.refl b
              · exact fold_le (fun b y => walk_le hn f y b) _ _
            · rw [ht, if_neg (by rw [h2]; simp)]
              refine fold_good (y := y') (fun b y => walk_le hn f y b) (fun b => ?_) _ _ hym
              have hg := walk_good hn f y' b s' r hsm hs' (by rw [hd'.len]; exact hs) hf'
              refine ⟨hg.1, ?_⟩
              have h5 := hg.2
              have h6 := hd'.a
              have h7 := hd'.b
              rw [lessS_not] at *
              omega
/-- b is told by a run, or is none -/
def Reach (stats : List Tb) (preds : List Pr) (b : St) : Prop := b.l ≠ [] → b.l.length = stats.length ∧ runR stats preds st0 b.l = some b
theorem fold_reach {α : Type} {P : St → Prop} {g : St → α → St} : ∀ (l : List α) (b : St), (∀ b y, y ∈ l → P b → P (g b y)) → P b → P (l.foldl g b)
  | [], b, _, h => h
  | y :: r, b, hg, h => fold_reach r _ (fun b z hz => hg b z (by simp [hz])) (hg b y (by simp) h)
theorem walk_reach : ∀ (f : Nat) (x b : St), runR stats preds st0 x.l = some x → Reach stats preds b → Reach stats preds (walkR ah stats preds f x b) := by
  have full : ∀ x b : St, runR stats preds st0 x.l = some x → Reach stats preds b → x.l.length = stats.length → Reach stats preds (if winsR ah x b = true then x else b) := fun x b hx hb h => by
    split
    · exact fun _ => ⟨h, hx⟩
    · exact hb
  intro f
  induction f with
  | zero =>
    intro x b hx hb
    unfold walkR
    split
    · exact hb
    · split
      · rename_i h; exact full x b hx hb h
      · exact hb
  | succ f ih =>
    intro x b hx hb
    unfold walkR
    split
    · exact hb
    · split
      · rename_i h; exact full x b hx hb h
      · refine fold_reach _ _ (fun b t _ hb => ?_) hb
        split
        · exact hb
        · refine fold_reach _ _ (fun b y hy hb => ?_) hb
          obtain ⟨j, hj⟩ := ways_from hy
          refine ih y b ?_ hb
          rw [with_l hj]
          exact run_snoc hx hj
theorem scans_run : ∀ k : Nat, k ≤ stats.length → ∃ s, runR stats preds st0 ((List.range k).map fun t : Nat => ((t : Int), (-1 : Int))) = some s
  | 0, _ => ⟨st0, rfl⟩
  | k + 1, hk => by
    obtain ⟨s, hs⟩ := scans_run k (by omega)
    have hl := run_l hs
    have hh : hasP (k : Int) s.l = false := by
      rw [hl]
      unfold hasP
      rw [List.any_eq_false]
      intro p hp
      simp only [st0, List.nil_append, List.mem_map, List.mem_range] at hp
      obtain ⟨t, ht, rfl⟩ := hp
      simp; omega
    have ht : stats[k]? = some stats[k] := List.getElem?_eq_getElem (by omega)
    refine ⟨addR s ((k : Int), -1) (bnd stats[k].pages) (bnd stats[k].rows) stats[k].rows, ?_⟩
    · rw [List.range_succ, List.map_append]
      refine run_snoc hs ?_
      rw [with_of (t := stats[k]) (by simp) (by simp; omega) hh (by simp) (by simp; omega) (by simp)]
      unfold withIn
      rw [if_pos (by simp)]
theorem best_spec (hn : 1 ≤ stats.length) : (bestR ah stats preds).l.length = stats.length ∧ runR stats preds st0 (bestR ah stats preds).l = some (bestR ah stats preds) ∧
    ∀ r s, runR stats preds st0 r = some s → r.length = stats.length → lessS s (bestR ah stats preds) = false := by
  have h0 : Sm st0 := ⟨by simp [st0], by simp [st0]⟩
  have G : ∀ r s, runR stats preds st0 r = some s → r.length = stats.length → Good s (bestR ah stats preds) := fun r s hr hl =>
    walk_good hn _ st0 none0 s r h0 hr (by rw [run_l hr]; simpa [st0] using hl) (by omega)
  obtain ⟨s, hs⟩ := scans_run (stats := stats) (preds := preds) stats.length (Nat.le_refl _)
  have g := G _ s hs (by simp)
  have h := walk_reach (ah := ah) (stats := stats) (preds := preds) stats.length st0 none0 rfl (fun h => absurd rfl h) g.1
  exact ⟨h.1, h.2, fun r s hr hl => (G r s hr hl).2⟩
end
/-! ### more preds -/
theorem with_more {x y : St} {p : Int × Int} {stats : List Tb} {preds : List Pr} (e : List Pr) (h : withR x p stats preds = some y) : withR x p stats (preds ++ e) = some y := by
  obtain ⟨h0, h1, h2, h3, h4, t, ht, h⟩ := with_shape h
  rw [with_of h0 h1 h2 h3 (by simp; omega) ht]
  rw [← h]
  unfold withIn
  split
  · rfl
  · rename_i hp
    rw [List.getElem?_append_left (by omega)]
theorem run_more {stats : List Tb} {preds : List Pr} (e : List Pr) : ∀ {r : List (Int × Int)} {x s : St}, runR stats preds x r = some s → runR stats (preds ++ e) x r = some s
  | [], x, s, h => h
  | p :: r, x, s, h => by
    unfold runR at h
    split at h
    · cases h
    · rename_i y hy
      unfold runR
      rw [with_more e hy]
      exact run_more e h
end Go.Proofs.Ytemhfaknmagebaa
