/- redo: the plain law of RedoCounts; what every history keeps. -/
import Derived.Test.YtmanokhadppeeaaH1
namespace Go.Proofs.Ytmanokhadppeeaa
open Go.RowKit
set_option linter.unusedSimpArgs false
set_option linter.unusedVariables false
/-- what a record of a history is like -/
structure CoOk (c : Co) : Prop where
  kind : c.kind = 1 ∨ c.kind = 2 ∨ c.kind = 3 ∨ c.kind = 4
  txn : 1 ≤ c.txn ∧ c.txn ≤ 4
  page : 0 ≤ c.page ∧ c.page ≤ 3
  lsn : 0 < c.lsn
  bl : c.bs.length ≤ 1
structure HI (h : Hs) : Prop where
  ok : ∀ c ∈ h.log, CoOk c
  lsn : ∀ i (hi : i < h.log.length), h.log[i].lsn = 10 * ((i : Int) + 1)
theorem pOf_lt (x : Int) : pOf x < 4 := by unfold pOf; omega
theorem rec_ok (k : Nat) (h : Hs) (s : Sp) (H : HI h) : CoOk (recR k h s).1 ∧ (recR k h s).1.lsn = 10 * ((h.log.length : Int) + 1) := by
  have ht := tOf_bd s.txn
  have hp := pOf_lt s.page
  unfold recR
  dsimp only
  split
  · exact ⟨⟨.inl rfl, by simp only; omega, by simp only; omega, by simp only; omega, by simp⟩, rfl⟩
  · split
    · exact ⟨⟨.inr (.inr (.inr rfl)), by simp only; omega, by simp only; omega, by simp only; omega, by simp⟩, rfl⟩
    · split
      · split
        · exact ⟨⟨.inr (.inr (.inl rfl)), by simp only; omega, by simp only; omega, by simp only; omega, by simp⟩, rfl⟩
        · rename_i u hu
          have := (H.ok u (List.mem_of_getElem? hu)).page
          exact ⟨⟨.inr (.inr (.inl rfl)), by simp only; omega, this, by simp only; omega, by simp⟩, rfl⟩
      · exact ⟨⟨.inr (.inl rfl), by simp only; omega, by simp only; omega, by simp only; omega, by simp⟩, rfl⟩
theorem HI.step {h : Hs} (H : HI h) (k : Nat) (s : Sp) : HI (stepH k h s) := by
  unfold stepH
  split
  · exact H
  · obtain ⟨h1, h2⟩ := rec_ok k h s H
    refine ⟨fun c hc => ?_, fun i hi => ?_⟩
    · rcases List.mem_append.1 hc with hc | hc
      · exact H.ok c hc
      · simp only [List.mem_singleton] at hc
        subst hc; exact h1
    · simp only [List.length_append, List.length_singleton] at hi
      by_cases e : i < h.log.length
      · simp only [List.getElem_append_left e]
        exact H.lsn i e
      · have : i = h.log.length := by omega
        subst this
        simp only [List.getElem_append_right (Nat.le_refl _), Nat.sub_self, List.getElem_cons_zero]
        exact h2
theorem HI.fold : ∀ (l : List Sp) (k : Nat) (h : Hs), HI h → HI (histF k h l)
  | [], _, _, H => H
  | s :: r, k, h, H => HI.fold r (k + 1) _ (H.step k s)
theorem HI.zero : HI h0 := ⟨fun c hc => by simp [h0] at hc, fun i hi => by simp [h0] at hi⟩
/-- the LSN of a page's first change; 0: none -/
def mB (p : Int) (x : Ln) : Bool := chB x.kind && (x.page == p)
def firstC (R : List Ln) (p : Int) : Int := R.foldr (fun x a => if mB p x = true then x.lsn else a) 0
def cmtC (R : List Ln) : Nat := (R.filter fun x => x.kind == 4).length
theorem firstC_zero {R : List Ln} (hl : ∀ x ∈ R, 0 < x.lsn) (p : Int) : firstC R p = 0 ↔ ∀ x ∈ R, mB p x = false := by
  induction R with
  | nil => simp [firstC]
  | cons x r ih =>
    have ih := ih (fun y hy => hl y (by simp [hy]))
    have hx := hl x (by simp)
    have e : firstC (x :: r) p = if mB p x = true then x.lsn else firstC r p := rfl
    rw [e]
    by_cases hm : mB p x = true
    · rw [if_pos hm]
      constructor
      · intro h; omega
      · intro h; have := h x (by simp); rw [hm] at this; cases this
    · rw [if_neg hm, ih]
      simp at hm
      simp [hm]
theorem firstC_snoc {R : List Ln} (hl : ∀ x ∈ R, 0 < x.lsn) (x : Ln) (p : Int) : firstC (R ++ [x]) p = if firstC R p = 0 then (if mB p x = true then x.lsn else 0) else firstC R p := by
  induction R with
  | nil => simp [firstC]
  | cons y r ih =>
    have ih := ih (fun z hz => hl z (by simp [hz]))
    have hy := hl y (by simp)
    have e : ∀ r : List Ln, firstC (y :: r) p = if mB p y = true then y.lsn else firstC r p := fun r => rfl
    rw [List.cons_append, e, e, ih]
    by_cases hm : mB p y = true
    · rw [if_pos hm, if_pos hm, if_neg (by omega)]
    · rw [if_neg hm, if_neg hm]
/-- a good line -/
structure LnG (x : Ln) : Prop where
  kind : x.kind = 1 ∨ x.kind = 2 ∨ x.kind = 3 ∨ x.kind = 4
  txn : 1 ≤ x.txn ∧ x.txn ≤ 4
  page : 0 ≤ x.page ∧ x.page ≤ 3
  lsn : 0 < x.lsn
theorem ids_set {ts : List Tx} {j : Nat} {t u : Tx} (h : ts[j]? = some t) (hu : u.id = t.id) : (ts.set j u).map Tx.id = ts.map Tx.id := by
  apply List.ext_getElem?
  intro i
  rw [List.getElem?_map, List.getElem?_map, List.getElem?_set]
  by_cases e : j = i
  · subst e
    obtain ⟨hj, rfl⟩ := List.getElem?_eq_some_iff.1 h
    simp [hj, hu]
  · rw [if_neg e]
/-- whose numbers are in the table behind a line -/
theorem putT_ids (x : Ln) (ts : List Tx) : ((putT x ts).map Tx.id).Sublist (if idxB (fun t : Tx => t.id == x.txn) ts 0 < 0 then ts.map Tx.id ++ [x.txn] else ts.map Tx.id) := by
  unfold putT
  have key : ∀ (us : List Tx) (j : Nat) (B : List Int), us.map Tx.id = B → ((match us[j]? with
    | none => us
    | some t => if x.kind = 4 then us.set j ⟨t.id, x.lsn, 2⟩ else if x.kind = 5 then us.set j ⟨t.id, x.lsn, 3⟩ else if x.kind = 6 then us.eraseIdx j else us.set j ⟨t.id, x.lsn, t.st⟩).map Tx.id).Sublist B := by
    intro us j B hB
    subst hB
    cases e : us[j]? with
    | none => exact List.Sublist.refl _
    | some t =>
      simp only
      split
      · rw [ids_set (u := ⟨t.id, x.lsn, 2⟩) e rfl]; exact List.Sublist.refl _
      · split
        · rw [ids_set (u := ⟨t.id, x.lsn, 3⟩) e rfl]; exact List.Sublist.refl _
        · split
          · exact (List.eraseIdx_sublist us j).map _
          · rw [ids_set (u := ⟨t.id, x.lsn, t.st⟩) e rfl]; exact List.Sublist.refl _
  by_cases h : idxB (fun t : Tx => t.id == x.txn) ts 0 < 0
  · simp only [if_pos h]
    exact key _ _ _ (by simp)
  · simp only [if_neg h]
    exact key _ _ _ rfl
theorem len4 : ∀ (l : List Int), (∀ x ∈ l, 1 ≤ x ∧ x ≤ 4) → l.length = l.count 1 + l.count 2 + l.count 3 + l.count 4
  | [], _ => rfl
  | x :: r, h => by
    have h1 := h x (by simp)
    have ih := len4 r (fun y hy => h y (by simp [hy]))
    have hx : x = 1 ∨ x = 2 ∨ x = 3 ∨ x = 4 := by omega
    rcases hx with rfl | rfl | rfl | rfl <;> simp [List.count_cons] <;> omega
theorem len_le4 {l : List Int} (hn : l.Nodup) (h : ∀ x ∈ l, 1 ≤ x ∧ x ≤ 4) : l.length ≤ 4 := by
  have hc := List.nodup_iff_count.1 hn
  have := len4 l h
  have h1 := hc 1
  have h2 := hc 2
  have h3 := hc 3
  have h4 := hc 4
  omega
/-- what the analysis keeps behind a checkpoint -/
structure AI (cnt : Int) (P : List Ln) (a : An) : Prop where
  idn : (a.ts.map Tx.id).Nodup
  idr : ∀ i ∈ a.ts.map Tx.id, 1 ≤ i ∧ i ≤ 4
  nine : (⟨9, 2⟩ : Dy) ∈ a.ds
  pgn : (a.ds.map Dy.page).Nodup
  dd : ∀ d ∈ a.ds, d = ⟨9, 2⟩ ∨ (0 ≤ d.page ∧ d.page ≤ 3 ∧ firstC P d.page = d.lsn ∧ d.lsn ≠ 0)
  all : ∀ p, firstC P p ≠ 0 → ∃ d ∈ a.ds, d.page = p
  n : a.n = cnt + (cmtC P : Int)
theorem AI.step {cnt : Int} {P : List Ln} {a : An} (h : AI cnt P a) (hc : 0 ≤ cnt ∧ cnt ≤ 65535) (hP : ∀ x ∈ P, 0 < x.lsn) (hl : P.length ≤ 1000) {x : Ln} (g : LnG x) : AI cnt (P ++ [x]) (stepA a x) := by
  have k7 : ¬ x.kind = 7 := by rcases g.kind with e | e | e | e <;> omega
  have ht : ¬ x.txn ≤ 0 := by have := g.txn; omega
  have hcl : cmtC P ≤ 1000 := Nat.le_trans (List.length_filter_le _ _) hl
  have hi := putT_ids x a.ts
  have hsn := fun p => firstC_snoc hP x p
  have hz := fun p => firstC_zero hP p
  unfold stepA
  rw [if_neg k7, if_neg ht]
  refine ⟨?_, ?_, ?_, ?_, ?_, ?_, ?_⟩
  · refine hi.nodup ?_
    split
    · rename_i hn
      have hn := (idx_neg (p := fun t : Tx => t.id == x.txn) a.ts 0).1 hn
      rw [List.nodup_append]
      refine ⟨h.idn, by simp, fun i hi j hj => ?_⟩
      simp only [List.mem_singleton] at hj
      subst hj
      obtain ⟨t, ht, rfl⟩ := List.mem_map.1 hi
      have := hn t ht
      simpa using this
    · exact h.idn
  · intro i hm
    have := hi.subset hm
    split at this
    · rcases List.mem_append.1 this with h1 | h1
      · exact h.idr i h1
      · simp only [List.mem_singleton] at h1
        subst h1; exact g.txn
    · exact h.idr i this
  · simp only
    split
    · exact List.mem_append_left _ h.nine
    · exact h.nine
  · simp only
    split
    · rename_i hh
      have hn := (idx_neg (p := fun d : Dy => d.page == x.page) a.ds 0).1 hh.2
      rw [List.map_append, List.nodup_append]
      refine ⟨h.pgn, by simp, fun i hi j hj => ?_⟩
      simp only [List.map_cons, List.map_nil, List.mem_singleton] at hj
      subst hj
      obtain ⟨d, hd, rfl⟩ := List.mem_map.1 hi
      have := hn d hd
      simpa using this
    · exact h.pgn
  · intro d hd
    have old : d ∈ a.ds → d = ⟨9, 2⟩ ∨ (0 ≤ d.page ∧ d.page ≤ 3 ∧ firstC (P ++ [x]) d.page = d.lsn ∧ d.lsn ≠ 0) := fun hd => by
      rcases h.dd d hd with h1 | ⟨h1, h2, h3, h4⟩
      · exact .inl h1
      · refine .inr ⟨h1, h2, ?_, h4⟩
        rw [hsn, h3, if_neg h4]
    simp only at hd
    split at hd
    · rename_i hh
      rcases List.mem_append.1 hd with hd | hd
      · exact old hd
      · simp only [List.mem_singleton] at hd
        subst hd
        have hn := (idx_neg (p := fun d : Dy => d.page == x.page) a.ds 0).1 hh.2
        have hz0 : firstC P x.page = 0 := by
          refine Classical.byContradiction fun hne => ?_
          obtain ⟨d, hd, e⟩ := h.all _ hne
          have := hn d hd
          simp [e] at this
        have hm : mB x.page x = true := by unfold mB; simp [hh.1]
        refine .inr ⟨g.page.1, g.page.2, ?_, by have := g.lsn; simp only; omega⟩
        rw [hsn, if_pos hz0, if_pos hm]
    · exact old hd
  · intro p hp
    rw [hsn] at hp
    have old : (∃ d ∈ a.ds, d.page = p) → ∃ d ∈ (if chB x.kind = true ∧ idxB (fun d : Dy => d.page == x.page) a.ds 0 < 0 then a.ds ++ [⟨x.page, x.lsn⟩] else a.ds), d.page = p := fun ⟨d, hd, e⟩ => by
      refine ⟨d, ?_, e⟩
      split
      · exact List.mem_append_left _ hd
      · exact hd
    by_cases h0 : firstC P p = 0
    · rw [if_pos h0] at hp
      by_cases hm : mB p x = true
      · unfold mB at hm
        simp only [Bool.and_eq_true, beq_iff_eq] at hm
        by_cases hn : idxB (fun d : Dy => d.page == x.page) a.ds 0 < 0
        · exact ⟨⟨x.page, x.lsn⟩, by rw [if_pos ⟨hm.1, hn⟩]; simp, hm.2⟩
        · refine old ?_
          refine Classical.byContradiction fun hne => hn ((idx_neg (p := fun d : Dy => d.page == x.page) a.ds 0).2 fun d hd => ?_)
          rw [beq_eq_false_iff_ne]
          intro e
          exact hne ⟨d, hd, by rw [e, hm.2]⟩
      · rw [if_neg hm] at hp; exact absurd rfl hp
    · exact old (h.all p h0)
  · have e : cmtC (P ++ [x]) = cmtC P + (if x.kind = 4 then 1 else 0) := by
      unfold cmtC
      rw [List.filter_append, List.length_append]
      by_cases hk : x.kind = 4
      · simp [hk]
      · simp [hk]
    rw [e]
    simp only
    split
    · rw [h.n]
      unfold wrap64
      omega
    · rw [h.n]; simp
theorem AI.fold {cnt : Int} (hc : 0 ≤ cnt ∧ cnt ≤ 65535) : ∀ (R P : List Ln) (a : An), AI cnt P a → (∀ x ∈ P, 0 < x.lsn) → (∀ x ∈ R, LnG x) → P.length + R.length ≤ 1000 → AI cnt (P ++ R) (R.foldl stepA a)
  | [], P, a, h, _, _, _ => by simpa using h
  | x :: r, P, a, h, hP, hR, hl => by
    have g := hR x (by simp)
    simp only [List.length_cons] at hl
    have := AI.fold hc r (P ++ [x]) (stepA a x) (h.step hc hP (by omega) g) (fun y hy => by
      rcases List.mem_append.1 hy with hy | hy
      · exact hP y hy
      · simp only [List.mem_singleton] at hy
        subst hy; exact g.lsn) (fun y hy => hR y (by simp [hy])) (by simp; omega)
    simpa using this
theorem AI.start (cnt : Int) : AI cnt [] ⟨[], [⟨9, 2⟩], cnt⟩ := ⟨by simp, by simp, by simp, by simp, fun d hd => .inl (by simpa using hd), fun p hp => by simp [firstC] at hp, by simp [cmtC]⟩
theorem len5 : ∀ (l : List Int), (∀ x ∈ l, x = 9 ∨ (0 ≤ x ∧ x ≤ 3)) → l.length = l.count 9 + l.count 0 + l.count 1 + l.count 2 + l.count 3
  | [], _ => rfl
  | x :: r, h => by
    have h1 := h x (by simp)
    have ih := len5 r (fun y hy => h y (by simp [hy]))
    have hx : x = 9 ∨ x = 0 ∨ x = 1 ∨ x = 2 ∨ x = 3 := by omega
    rcases hx with rfl | rfl | rfl | rfl | rfl <;> simp [List.count_cons] <;> omega
theorem AI.tsl {cnt : Int} {P : List Ln} {a : An} (h : AI cnt P a) : a.ts.length ≤ 4 := by
  have := len_le4 h.idn h.idr
  simpa using this
theorem AI.dsl {cnt : Int} {P : List Ln} {a : An} (h : AI cnt P a) : a.ds.length ≤ 5 := by
  have hc := List.nodup_iff_count.1 h.pgn
  have := len5 (a.ds.map Dy.page) (fun x hx => by
    obtain ⟨d, hd, rfl⟩ := List.mem_map.1 hx
    rcases h.dd d hd with e | ⟨e1, e2, _⟩
    · exact .inl (by rw [e])
    · exact .inr ⟨e1, e2⟩)
  have h1 := hc 9
  have h2 := hc 0
  have h3 := hc 1
  have h4 := hc 2
  have h5 := hc 3
  simp only [List.length_map] at this
  omega
theorem anR_check (A B : List Ln) (c : Ln) (hk : c.kind = 7) : anR (A ++ c :: B) = B.foldl stepA ⟨c.ts, c.ds, c.cnt⟩ := by
  unfold anR
  rw [List.foldl_append, List.foldl_cons]
  congr 1
  unfold stepA
  rw [if_pos hk]
theorem firstC_cons (x : Ln) (r : List Ln) (p : Int) : firstC (x :: r) p = if mB p x = true then x.lsn else firstC r p := rfl
end Go.Proofs.Ytmanokhadppeeaa
