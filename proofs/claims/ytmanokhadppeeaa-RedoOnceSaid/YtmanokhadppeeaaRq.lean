/- redo: the plain law of RedoRepeats: what Redo tells is what the reference tells. -/
import Derived.Test.YtmanokhadppeeaaR1
namespace Go.Proofs.Ytmanokhadppeeaa
set_option linter.unusedSimpArgs false
set_option linter.unusedVariables false
/-- the checks of a list's neighbours, from place i on -/
def okN (q : Nat → Bool) : Nat → Nat → Bool
  | 0, _ => true
  | n + 1, i => q i && okN q n (i + 1)
theorem okN_true {q : Nat → Bool} : ∀ {n i : Nat}, okN q n i = true → ∀ k, i ≤ k → k < i + n → q k = true
  | 0, i, _, k, h1, h2 => by omega
  | n + 1, i, h, k, h1, h2 => by
    unfold okN at h
    rw [Bool.and_eq_true] at h
    by_cases e : k = i
    · subst e; exact h.1
    · exact okN_true h.2 k (by omega) (by omega)
def stepUp {α : Type} (f : α → Int) (l : List α) (k : Nat) : Bool :=
  match l[k]?, l[k - 1]? with
  | some x, some y => !decide (f x ≤ f y)
  | _, _ => true
def upB {α : Type} (f : α → Int) (l : List α) : Bool := okN (stepUp f l) (l.length - 1) 1
theorem upB_lt {α : Type} {f : α → Int} {l : List α} (h : upB f l = true) : ∀ k (hk : k + 1 < l.length), f l[k] < f l[k + 1] := by
  intro k hk
  have := okN_true h (k + 1) (by omega) (by omega)
  unfold stepUp at this
  rw [List.getElem?_eq_getElem hk, show k + 1 - 1 = k by omega, List.getElem?_eq_getElem (by omega)] at this
  simpa using this
theorem upB_pair {α : Type} {f : α → Int} {l : List α} (h : upB f l = true) : l.Pairwise (fun a b => f a < f b) := by
  rw [List.pairwise_iff_getElem]
  have key : ∀ d i (hi : i + d + 1 < l.length), f l[i] < f l[i + d + 1] := by
    intro d
    induction d with
    | zero => intro i hi; exact upB_lt h i hi
    | succ d ih =>
      intro i hi
      have h1 := ih i (by omega)
      have h2 := upB_lt h (i + d + 1) (by omega)
      have : f l[i] < f l[i + d + 1 + 1] := by omega
      simpa [Nat.add_assoc] using this
  intro i j hi hj hij
  have := key (j - i - 1) i (by omega)
  have e : i + (j - i - 1) + 1 = j := by omega
  simp only [e] at this
  exact this
/-- the reference's pages -/
structure Pg where
  p : Int
  lsn : Int
/-- the last place that fits -/
def lastI {α : Type} (q : α → Bool) : List α → Nat → Int → Int
  | [], _, a => a
  | x :: r, i, a => lastI q r (i + 1) (if q x = true then (i : Int) else a)
/-- whether one fits, and what the last one tells -/
def lastV {α : Type} (q : α → Bool) (f : α → Int) : List α → Bool × Int → Bool × Int
  | [], a => a
  | x :: r, a => lastV q f r (if q x = true then (true, f x) else a)
def lk : List Pg → Int → Option Int
  | [], _ => none
  | x :: r, p => match lk r p with
    | some v => some v
    | none => if x.p = p then some x.lsn else none
theorem lk_snoc (l : List Pg) (x : Pg) (p : Int) : lk (l ++ [x]) p = if x.p = p then some x.lsn else lk l p := by
  induction l with
  | nil => simp [lk]
  | cons y r ih =>
    rw [List.cons_append, lk, ih, lk]
    by_cases h : x.p = p
    · rw [if_pos h, if_pos h]
    · rw [if_neg h, if_neg h]
theorem lastI_lk (p : Int) : ∀ (l : List Pg) (i : Nat) (a : Int),
    (lk l p = none → lastI (fun x : Pg => x.p == p) l i a = a) ∧
    ∀ v, lk l p = some v → ∃ k, ∃ h : k < l.length, lastI (fun x : Pg => x.p == p) l i a = ((i + k : Nat) : Int) ∧ l[k].p = p ∧ l[k].lsn = v ∧ ∀ v' q, lk (l.set k ⟨p, v'⟩) q = if q = p then some v' else lk l q
  | [], i, a => ⟨fun _ => rfl, fun v h => by cases h⟩
  | x :: r, i, a => by
    obtain ⟨h1, h2⟩ := lastI_lk p r (i + 1) (if (x.p == p) = true then (i : Int) else a)
    constructor
    · intro h
      rw [lk] at h
      cases e : lk r p with
      | some w => rw [e] at h; cases h
      | none =>
        rw [e] at h
        by_cases hx : x.p = p
        · simp [hx] at h
        · rw [lastI, h1 e, if_neg (by simpa using hx)]
    · intro v h
      rw [lk] at h
      cases e : lk r p with
      | some w =>
        rw [e] at h
        obtain ⟨k, hk, e1, e2, e3, e4⟩ := h2 w e
        refine ⟨k + 1, by simpa using hk, by rw [lastI, e1]; congr 1; omega, by simpa using e2, by simp at h; subst h; simpa using e3, fun v' q => ?_⟩
        rw [List.set_cons_succ, lk, e4, lk]
        by_cases hq : q = p
        · rw [if_pos hq, if_pos hq]
        · rw [if_neg hq, if_neg hq]
      | none =>
        rw [e] at h
        by_cases hx : x.p = p
        · simp [hx] at h
          refine ⟨0, by simp, by rw [lastI, h1 e, if_pos (by simpa using hx)]; simp, by simpa using hx, by simpa using h, fun v' q => ?_⟩
          rw [List.set_cons_zero, lk, lk]
          by_cases hq : q = p
          · subst hq; rw [e]; simp
          · rw [if_neg hq]
            cases lk r q with
            | some w => rfl
            | none => simp only; rw [if_neg (fun e => hq e.symm), if_neg (fun e => hq (by rw [← e, hx]))]
        · simp [hx] at h
/-- what the reference knows on its way -/
structure Fs where
  now : List Pg
  out : List Int
def atR (s : Fs) (p : Int) : List Pg × Int :=
  if lastI (fun x : Pg => x.p == p) s.now 0 (-1) < 0 then (s.now ++ [⟨p, 0⟩], (s.now.length : Int)) else (s.now, lastI (fun x : Pg => x.p == p) s.now 0 (-1))
def doR (now : List Pg) (k : Nat) (out : List Int) (lsn : Int) : Fs :=
  match now[k]? with
  | none => ⟨now, out⟩
  | some y => if y.lsn < lsn then ⟨now.set k ⟨y.p, lsn⟩, out ++ [lsn]⟩ else ⟨now, out⟩
def stepF (ds : List Dy) (s : Fs) (x : Ln) : Fs :=
  if chB x.kind = false then s
  else if (!(lastV (fun d : Dy => d.page == x.page) Dy.lsn ds (false, 0)).1 || decide (x.lsn < (lastV (fun d : Dy => d.page == x.page) Dy.lsn ds (false, 0)).2)) = true then s
  else doR (atR s x.page).1 (atR s x.page).2.toNat s.out x.lsn
def refR (l : List Ln) (ds : List Dy) (pg : List Pg) : List Int := (l.foldl (stepF ds) ⟨pg, []⟩).out
theorem fromI_le : ∀ (ds : List Dy) (n : Int), fromI ds n ≤ n ∧ ∀ d ∈ ds, fromI ds n ≤ d.lsn
  | [], n => ⟨Int.le_refl _, fun d h => by simp at h⟩
  | x :: r, n => by
    obtain ⟨h1, h2⟩ := fromI_le r (min n x.lsn)
    have e : fromI (x :: r) n = fromI r (min n x.lsn) := rfl
    rw [e]
    refine ⟨by omega, fun d hd => ?_⟩
    rcases List.mem_cons.1 hd with rfl | hd
    · omega
    · exact h2 d hd
theorem lastV_none {q : Dy → Bool} : ∀ (ds : List Dy) (a : Bool × Int), (∀ d ∈ ds, q d = false) → lastV q Dy.lsn ds a = a
  | [], a, _ => rfl
  | x :: r, a, h => by
    rw [lastV, h x (by simp), if_neg (by simp)]
    exact lastV_none r a (fun d hd => h d (by simp [hd]))
theorem lastV_one {q : Dy → Bool} : ∀ (ds : List Dy) (k : Nat) (hk : k < ds.length) (a : Bool × Int), q ds[k] = true → (∀ j (hj : j < ds.length), j ≠ k → q ds[j] = false) → lastV q Dy.lsn ds a = (true, ds[k].lsn)
  | [], k, hk, _, _, _ => by simp at hk
  | x :: r, 0, _, a, h, ho => by
    rw [lastV, if_pos (by simpa using h), lastV_none r]
    · rfl
    · intro d hd
      obtain ⟨j, hj, rfl⟩ := List.getElem_of_mem hd
      have := ho (j + 1) (by simpa using hj) (by omega)
      simpa using this
  | x :: r, k + 1, hk, a, h, ho => by
    have h0 := ho 0 (by simp) (by omega)
    rw [lastV, if_neg (by simpa using h0), lastV_one r k (by simpa using hk) a (by simpa using h) (fun j hj hne => ho (j + 1) (Nat.succ_lt_succ hj) (by omega))]
    simp
theorem skip_same {ds : List Dy} (hu : ds.Pairwise (fun a b => a.page < b.page)) (n : Int) (x : Ln) :
    skipR ds (fromI ds n) x = (!chB x.kind || (!(lastV (fun d : Dy => d.page == x.page) Dy.lsn ds (false, 0)).1 || decide (x.lsn < (lastV (fun d : Dy => d.page == x.page) Dy.lsn ds (false, 0)).2))) := by
  unfold skipR
  cases hch : chB x.kind
  · rfl
  · rcases idx_bd (p := fun d : Dy => d.page == x.page) ds 0 with h | ⟨k, hk, e1, e2, e3⟩
    · have hn := (idx_neg (p := fun d : Dy => d.page == x.page) ds 0).1 (by omega)
      rw [lastV_none ds (false, 0) hn, h]
      simp
    · have hone : lastV (fun d : Dy => d.page == x.page) Dy.lsn ds (false, 0) = (true, ds[k].lsn) := lastV_one ds k hk _ e2 (fun j hj hne => by
        rw [List.pairwise_iff_getElem] at hu
        have ek : ds[k].page = x.page := by simpa using e2
        rcases Nat.lt_or_ge j k with hlt | hge
        · have := hu j k hj hk hlt
          rw [beq_eq_false_iff_ne]; omega
        · have := hu k j hk hj (by omega)
          rw [beq_eq_false_iff_ne]; omega)
      have hle := (fromI_le ds n).2 ds[k] (List.getElem_mem hk)
      have e1' : idxB (fun d : Dy => d.page == x.page) ds 0 = (k : Int) := by rw [e1]; congr 1; omega
      rw [hone, e1', Int.toNat_natCast, List.getElem?_eq_getElem hk]
      have g1 : decide ((k : Int) < 0) = false := by simp
      rw [g1]
      simp only [Bool.not_true, Bool.false_or, Bool.or_false]
      by_cases hx : x.lsn < ds[k].lsn
      · simp [hx]
      · have : ¬ x.lsn < fromI ds n := by omega
        simp [hx, this]
/-- both know the same -/
def Same2 (g : Int → Int) (a : Rs) (b : Fs) : Prop := a.out = b.out ∧ ∀ p, (lk b.now p).getD 0 = (a.f p).getD (g p)
theorem stepR_go (ds : List Dy) (fr : Int) (g : Int → Int) (s : Rs) (x : Ln) : stepR ds fr g s x = if skipR ds fr x = true then s else if (s.f x.page).getD (g x.page) < x.lsn then ⟨upI s.f x.page x.lsn, s.out ++ [x.lsn]⟩ else ⟨upI s.f x.page ((s.f x.page).getD (g x.page)), s.out⟩ := by
  unfold stepR
  cases s.f x.page <;> rfl
theorem step_same {ds : List Dy} (hu : ds.Pairwise (fun a b => a.page < b.page)) (n : Int) (g : Int → Int) {a : Rs} {b : Fs} (h : Same2 g a b) (x : Ln) :
    Same2 g (stepR ds (fromI ds n) g a x) (stepF ds b x) := by
  obtain ⟨ho, hf⟩ := h
  rw [stepR_go]
  unfold stepF
  rw [skip_same hu n x]
  cases hch : chB x.kind
  · exact ⟨ho, hf⟩
  · simp only [Bool.not_true, Bool.false_or, if_neg (show ¬ (true = false) by simp)]
    generalize (!(lastV (fun d : Dy => d.page == x.page) Dy.lsn ds (false, 0)).1 || decide (x.lsn < (lastV (fun d : Dy => d.page == x.page) Dy.lsn ds (false, 0)).2)) = sk
    cases sk
    rotate_left
    · exact ⟨ho, hf⟩
    · simp only [Bool.false_eq_true, if_false]
      have hN := hf x.page
      generalize hNe : (a.f x.page).getD (g x.page) = N at *
      obtain ⟨i1, i2⟩ := lastI_lk x.page b.now 0 (-1)
      cases e : lk b.now x.page with
      | none =>
        rw [e] at hN
        have hN : N = 0 := hN.symm
        have ea : atR b x.page = (b.now ++ [⟨x.page, 0⟩], (b.now.length : Int)) := by
          unfold atR; rw [i1 e]; rfl
        rw [ea]
        simp only [Int.toNat_natCast]
        unfold doR
        rw [List.getElem?_append_right (Nat.le_refl _), Nat.sub_self]
        simp only [List.getElem?_cons_zero]
        subst hN
        by_cases hl : (0 : Int) < x.lsn
        · rw [if_pos hl, if_pos hl, List.set_append_right _ _ (Nat.le_refl _), Nat.sub_self, List.set_cons_zero]
          refine ⟨by simp [ho], fun p => ?_⟩
          rw [lk_snoc]
          unfold upI
          by_cases hp : p = x.page
          · subst hp; simp
          · rw [if_neg (fun e => hp e.symm)]
            simp only [if_neg hp]
            exact hf p
        · rw [if_neg hl, if_neg hl]
          refine ⟨ho, fun p => ?_⟩
          rw [lk_snoc]
          unfold upI
          by_cases hp : p = x.page
          · subst hp; simp
          · rw [if_neg (fun e => hp e.symm)]
            simp only [if_neg hp]
            exact hf p
      | some v =>
        rw [e] at hN
        have hN : v = N := hN
        subst hN
        obtain ⟨k, hk, e1, e2, e3, e4⟩ := i2 v e
        have ea : atR b x.page = (b.now, (k : Int)) := by
          unfold atR
          rw [e1, if_neg (by omega)]
          simp
        rw [ea]
        simp only [Int.toNat_natCast]
        unfold doR
        rw [List.getElem?_eq_getElem hk]
        simp only
        rw [e2, e3]
        by_cases hl : v < x.lsn
        · rw [if_pos hl, if_pos hl]
          refine ⟨by simp [ho], fun p => ?_⟩
          rw [e4]
          unfold upI
          by_cases hp : p = x.page
          · subst hp; simp
          · simp only [if_neg hp]
            exact hf p
        · rw [if_neg hl, if_neg hl]
          refine ⟨ho, fun p => ?_⟩
          unfold upI
          by_cases hp : p = x.page
          · subst hp; simp [e]
          · simp only [if_neg hp]
            exact hf p
theorem fold_same {ds : List Dy} (hu : ds.Pairwise (fun a b => a.page < b.page)) (n : Int) (g : Int → Int) : ∀ (l : List Ln) {a : Rs} {b : Fs}, Same2 g a b → Same2 g (l.foldl (stepR ds (fromI ds n) g) a) (l.foldl (stepF ds) b)
  | [], _, _, h => h
  | x :: r, _, _, h => fold_same hu n g r (step_same hu n g h x)
/-- the pages that the law hands to the reference -/
def pgR : List Int → Nat → List Pg
  | [], _ => []
  | v :: r, i => ⟨(i : Int), v⟩ :: pgR r (i + 1)
theorem lk_pgR : ∀ (ps : List Int) (i : Nat) (p : Int), (lk (pgR ps i) p).getD 0 = if p < i then 0 else (ps[(p - i).toNat]?).getD 0
  | [], i, p => by simp [pgR, lk]
  | v :: r, i, p => by
    rw [pgR, lk]
    have ih := lk_pgR r (i + 1) p
    have none_lt : ∀ (qs : List Int) (j : Nat), p < j → lk (pgR qs j) p = none := by
      intro qs
      induction qs with
      | nil => intro j _; rfl
      | cons a b ihb =>
        intro j hj
        rw [pgR, lk, ihb (j + 1) (by omega)]
        simp only
        rw [if_neg (by omega)]
    have none_ge : ∀ (qs : List Int) (j : Nat), (j : Int) + qs.length ≤ p → lk (pgR qs j) p = none := by
      intro qs
      induction qs with
      | nil => intro j _; rfl
      | cons a b ihb =>
        intro j hj
        simp only [List.length_cons] at hj
        rw [pgR, lk, ihb (j + 1) (by omega)]
        simp only
        rw [if_neg (by omega)]
    by_cases hp : p < i
    · rw [if_pos hp, none_lt r (i + 1) (by omega)]
      simp only
      rw [if_neg (by omega)]
      rfl
    · rw [if_neg hp]
      by_cases he : p = i
      · subst he
        rw [none_lt r (i + 1) (by omega)]
        simp
      · rw [if_neg (by omega)] at ih
        have e1 : (p - i).toNat = (p - ((i + 1 : Nat) : Int)).toNat + 1 := by omega
        rw [e1, List.getElem?_cons_succ, ← ih]
        cases lk (pgR r (i + 1)) p with
        | some w => rfl
        | none => simp only; rw [if_neg (fun e => he e.symm)]
theorem lastV_nil (q : Dy → Bool) (a : Bool × Int) : lastV q Dy.lsn [] a = a := rfl
theorem fold_nil : ∀ (l : List Ln) (s : Fs), l.foldl (stepF []) s = s
  | [], s => rfl
  | x :: r, s => by
    rw [List.foldl_cons]
    have : stepF [] s x = s := by
      unfold stepF
      split
      · rfl
      · rw [if_pos (by simp [lastV])]
    rw [this]
    exact fold_nil r s
/-- the plain law -/
theorem repeats_same (l : List Ln) (ds : List Dy) (ps : List Int) (hu : upB Dy.page ds = true) : redoR l ds (lsnI ps) = refR l ds (pgR ps 0) := by
  cases ds with
  | nil => unfold refR; rw [fold_nil]; rfl
  | cons d r =>
    have h0 : Same2 (lsnI ps) ⟨fun _ => none, []⟩ ⟨pgR ps 0, []⟩ := ⟨rfl, fun p => by
      rw [lk_pgR]
      unfold lsnI
      simp⟩
    exact (fold_same (upB_pair hu) d.lsn (lsnI ps) l h0).1
end Go.Proofs.Ytmanokhadppeeaa
