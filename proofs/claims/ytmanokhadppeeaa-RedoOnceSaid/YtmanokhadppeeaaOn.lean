/- redo: the plain law of RedoOnce: what a history keeps of its stacks of updates not undone. -/
import Derived.Test.YtmanokhadppeeaaHd
namespace Go.Proofs.Ytmanokhadppeeaa
open Go.RowKit
set_option linter.unusedSimpArgs false
set_option linter.unusedVariables false
/-- the chain of a transaction's records, from one of them back, and the updates that it comes by -/
inductive Ch (l : List Co) (t : Int) : Int → List Int → Prop
  | nil : Ch l t 0 []
  | beg {k : Nat} {c : Co} : l[k]? = some c → c.kind = 1 → c.txn = t → c.prev = 0 → Ch l t c.lsn []
  | upd {k : Nat} {c : Co} {s : List Int} : l[k]? = some c → c.kind = 2 → c.txn = t → c.prev < c.lsn → Ch l t c.prev s → Ch l t c.lsn ((k : Int) :: s)
  | clr {k : Nat} {c : Co} {s : List Int} : l[k]? = some c → c.kind = 3 → c.txn = t → c.next < c.lsn → Ch l t c.next s → Ch l t c.lsn s
theorem get_snoc {α : Type} {l : List α} {k : Nat} {c x : α} (h : l[k]? = some c) : (l ++ [x])[k]? = some c := by
  obtain ⟨hk, rfl⟩ := List.getElem?_eq_some_iff.1 h
  rw [List.getElem?_append_left hk]
  exact h
theorem get_last {α : Type} (l : List α) (x : α) : (l ++ [x])[l.length]? = some x := by simp
theorem Ch.snoc {l : List Co} {t p : Int} {s : List Int} (h : Ch l t p s) (x : Co) : Ch (l ++ [x]) t p s := by
  induction h with
  | nil => exact .nil
  | beg a b c d => exact .beg (get_snoc a) b c d
  | upd a b c d _ ih => exact .upd (get_snoc a) b c d ih
  | clr a b c d _ ih => exact .clr (get_snoc a) b c d ih
/-- the first of the stack is an update, and its Prev leads to the rest -/
theorem Ch.top {l : List Co} {t p : Int} {k : Int} {s : List Int} (h : Ch l t p (k :: s)) : ∃ c, l[k.toNat]? = some c ∧ 0 ≤ k ∧ c.kind = 2 ∧ c.txn = t ∧ c.prev < c.lsn ∧ c.lsn ≤ p ∧ Ch l t c.prev s := by
  generalize e : k :: s = S at h
  induction h with
  | nil => cases e
  | beg a b c d => cases e
  | upd a b c d g ih =>
    cases e
    exact ⟨_, by simpa using a, by omega, b, c, d, Int.le_refl _, g⟩
  | clr a b c d g ih =>
    obtain ⟨c', h1, h2, h3, h4, h5, h6, h7⟩ := ih e
    exact ⟨c', h1, h2, h3, h4, h5, by omega, h7⟩
/-- what stands in the stack lies before the place that it is reached from -/
theorem Ch.le {l : List Co} {t p : Int} {s : List Int} (h : Ch l t p s) : ∀ j ∈ s, ∃ c, l[j.toNat]? = some c ∧ 0 ≤ j ∧ c.kind = 2 ∧ c.txn = t ∧ c.lsn ≤ p := by
  induction h with
  | nil => intro j hj; cases hj
  | beg a b c d => intro j hj; cases hj
  | upd a b c d g ih =>
    intro j hj
    rcases List.mem_cons.1 hj with rfl | hj
    · exact ⟨_, by simpa using a, by omega, b, c, Int.le_refl _⟩
    · obtain ⟨c', h1, h2, h3, h4, h5⟩ := ih j hj
      exact ⟨c', h1, h2, h3, h4, by omega⟩
  | clr a b c d g ih =>
    intro j hj
    obtain ⟨c', h1, h2, h3, h4, h5⟩ := ih j hj
    exact ⟨c', h1, h2, h3, h4, by omega⟩
/-- undone behind it -/
def goneP (l : List Co) (j : Nat) (c : Co) : Prop := ∃ k x, j < k ∧ l[k]? = some x ∧ x.kind = 3 ∧ x.txn = c.txn ∧ x.next < c.lsn
def wonP (l : List Co) (j : Nat) (c : Co) : Prop := ∃ k x, j < k ∧ l[k]? = some x ∧ x.kind = 4 ∧ x.txn = c.txn
/-- what the history keeps -/
structure OI (h : Hs) : Prop where
  hi : HI h
  lst : ∀ t, 0 ≤ h.last t ∧ h.last t ≤ 10 * (h.log.length : Int)
  zero : ∀ t, h.last t = 0 → h.todo t = [] ∧ h.done t = false
  ch : ∀ t : Nat, h.done t = false → Ch h.log t (h.last t) (h.todo t).reverse
  won : ∀ (j : Nat) c, h.log[j]? = some c → c.kind = 2 → (h.done c.txn.toNat = true ↔ wonP h.log j c)
  gone : ∀ (j : Nat) c, h.log[j]? = some c → c.kind = 2 → h.done c.txn.toNat = false → ((j : Int) ∈ h.todo c.txn.toNat ↔ ¬ goneP h.log j c)
theorem OI.zero' : OI h0 := ⟨HI.zero, fun t => by simp [h0], fun t _ => ⟨rfl, rfl⟩, fun t _ => .nil, fun j c h => by simp [h0] at h, fun j c h => by simp [h0] at h⟩
theorem gone_snoc {l : List Co} {j : Nat} {c x : Co} (hj : j < l.length) : goneP (l ++ [x]) j c ↔ goneP l j c ∨ (x.kind = 3 ∧ x.txn = c.txn ∧ x.next < c.lsn) := by
  constructor
  · rintro ⟨k, y, h1, h2, h3⟩
    rw [List.getElem?_append] at h2
    split at h2
    · exact .inl ⟨k, y, h1, h2, h3⟩
    · have : y = x := by
        have := List.mem_of_getElem? h2
        simpa using this
      subst this
      exact .inr h3
  · rintro (⟨k, y, h1, h2, h3⟩ | h)
    · exact ⟨k, y, h1, get_snoc h2, h3⟩
    · exact ⟨l.length, x, hj, by simp, h⟩
theorem won_snoc {l : List Co} {j : Nat} {c x : Co} (hj : j < l.length) : wonP (l ++ [x]) j c ↔ wonP l j c ∨ (x.kind = 4 ∧ x.txn = c.txn) := by
  constructor
  · rintro ⟨k, y, h1, h2, h3⟩
    rw [List.getElem?_append] at h2
    split at h2
    · exact .inl ⟨k, y, h1, h2, h3⟩
    · have : y = x := by
        have := List.mem_of_getElem? h2
        simpa using this
      subst this
      exact .inr h3
  · rintro (⟨k, y, h1, h2, h3⟩ | h)
    · exact ⟨k, y, h1, get_snoc h2, h3⟩
    · exact ⟨l.length, x, hj, by simp, h⟩
theorem gone_last {l : List Co} {c x : Co} : ¬ goneP (l ++ [x]) l.length c := by
  rintro ⟨k, y, h1, h2, h3⟩
  obtain ⟨hk, _⟩ := List.getElem?_eq_some_iff.1 h2
  simp at hk; omega
theorem won_last {l : List Co} {c x : Co} : ¬ wonP (l ++ [x]) l.length c := by
  rintro ⟨k, y, h1, h2, h3⟩
  obtain ⟨hk, _⟩ := List.getElem?_eq_some_iff.1 h2
  simp at hk; omega
theorem OI.app {h : Hs} (H : OI h) (t : Nat) (ht : 1 ≤ t ∧ t ≤ 4) (x : Co) (hx : CoOk x) (hxl : x.lsn = 10 * ((h.log.length : Int) + 1)) (hxt : x.txn = (t : Int)) (hd : h.done t = false) (D : Nat → Bool) (T : Nat → List Int) (hI : HI ⟨h.log ++ [x], up5 h.last t (10 * ((h.log.length : Int) + 1)), D, T⟩)
    (hD : ∀ q, q ≠ t → D q = h.done q) (hT : ∀ q, q ≠ t → T q = h.todo q) (hDt : D t = true ↔ x.kind = 4) (hch : D t = false → Ch (h.log ++ [x]) t x.lsn (T t).reverse)
    (hg : D t = false → ∀ (j : Nat) c, h.log[j]? = some c → c.kind = 2 → c.txn = (t : Int) → ((j : Int) ∈ T t ↔ (j : Int) ∈ h.todo t ∧ ¬ (x.kind = 3 ∧ x.next < c.lsn)))
    (hn : D t = false → x.kind = 2 → (h.log.length : Int) ∈ T t) : OI ⟨h.log ++ [x], up5 h.last t (10 * ((h.log.length : Int) + 1)), D, T⟩ := by
  have hlen : (h.log ++ [x]).length = h.log.length + 1 := by simp
  refine ⟨hI, fun q => ?_, fun q hq => ?_, fun q hq => ?_, fun j c hc hk => ?_, fun j c hc hk hdn => ?_⟩
  · have := H.lst q
    simp only [up5, hlen]
    split <;> omega
  · simp only [up5] at hq ⊢
    split at hq
    · omega
    · rename_i hne
      rw [hD q hne, hT q hne]
      exact H.zero q hq
  · simp only [up5] at hq ⊢
    split
    · rename_i e
      subst e
      rw [← hxl]
      exact hch hq
    · rename_i hne
      rw [hD q hne] at hq
      rw [hT q hne]
      exact (H.ch q hq).snoc x
  · simp only at hc ⊢
    rw [List.getElem?_append] at hc
    split at hc
    · rename_i hj
      have hcok := (H.hi.ok c (List.mem_of_getElem? hc)).txn
      rw [won_snoc hj]
      have hw := H.won j c hc hk
      by_cases e : c.txn = (t : Int)
      · have e' : c.txn.toNat = t := by omega
        rw [e', hDt]
        rw [e'] at hw
        rw [hd] at hw
        constructor
        · intro h4; exact .inr ⟨h4, by omega⟩
        · rintro (h1 | h1)
          · exact absurd (hw.2 h1) (by simp)
          · exact h1.1
      · rw [hD _ (by omega)]
        rw [hw]
        constructor
        · exact .inl
        · rintro (h1 | h1)
          · exact h1
          · exact absurd h1.2 (by omega)
    · rename_i hj
      have hjl : j = h.log.length := by
        obtain ⟨hk', _⟩ := List.getElem?_eq_some_iff.1 hc
        simp at hk'; omega
      subst hjl
      have : c = x := by simpa using hc.symm
      subst this
      have e' : c.txn.toNat = t := by omega
      rw [e', hDt]
      constructor
      · intro h4; omega
      · intro h4; exact absurd h4 won_last
  · simp only at hc hdn ⊢
    rw [List.getElem?_append] at hc
    split at hc
    · rename_i hj
      have hcok := (H.hi.ok c (List.mem_of_getElem? hc)).txn
      rw [gone_snoc hj]
      have hw := H.gone j c hc hk
      by_cases e : c.txn = (t : Int)
      · have e' : c.txn.toNat = t := by omega
        rw [e'] at hw hdn ⊢
        rw [hg hdn j c hc hk e, hw hd]
        constructor
        · rintro ⟨h1, h2⟩ (h3 | h3)
          · exact h1 h3
          · exact h2 ⟨h3.1, h3.2.2⟩
        · intro h1
          exact ⟨fun h2 => h1 (.inl h2), fun h2 => h1 (.inr ⟨h2.1, by omega, h2.2⟩)⟩
      · have hne : c.txn.toNat ≠ t := by omega
        rw [hD _ hne] at hdn
        rw [hT _ hne, hw hdn]
        constructor
        · rintro h1 (h3 | h3)
          · exact h1 h3
          · omega
        · intro h1 h2
          exact h1 (.inl h2)
    · rename_i hj
      have hjl : j = h.log.length := by
        obtain ⟨hk', _⟩ := List.getElem?_eq_some_iff.1 hc
        simp at hk'; omega
      subst hjl
      have : c = x := by simpa using hc.symm
      subst this
      have e' : c.txn.toNat = t := by omega
      rw [e'] at hdn ⊢
      exact ⟨fun _ => gone_last, fun _ => hn hdn hk⟩
theorem OI.step {h : Hs} (H : OI h) (k : Nat) (s : Sp) : OI (stepH k h s) := by
  have hHI := H.hi.step k s
  have ht := tOf_bd s.txn
  obtain ⟨hr1, hr2⟩ := rec_ok k h s H.hi
  have hl := H.lst (tOf s.txn)
  have hzero := H.zero (tOf s.txn)
  have hch := H.ch (tOf s.txn)
  unfold stepH at hHI ⊢
  split
  · exact H
  · rename_i hd
    rw [if_neg hd] at hHI
    have hd : h.done (tOf s.txn) = false := by simpa using hd
    have hch := hch hd
    revert hHI hr1 hr2
    unfold recR
    dsimp only
    split
    · rename_i h0
      obtain ⟨htd, _⟩ := hzero h0
      intro hHI hr1 hr2
      dsimp only at hHI hr1 hr2
      refine H.app (tOf s.txn) ht _ hr1 rfl rfl hd _ _ hHI (fun q _ => rfl) (fun q _ => rfl) (by simp [hd]) (fun _ => ?_) (fun _ j c hc hk ht' => ?_) (fun _ hk => ?_)
      · dsimp only
        rw [htd]
        exact Ch.beg (k := h.log.length) (get_last _ _) rfl rfl h0
      · dsimp only
        rw [htd]; simp
      · simp at hk
    · rename_i h0
      split
      · intro hHI hr1 hr2
        dsimp only at hHI hr1 hr2
        refine H.app (tOf s.txn) ht _ hr1 rfl rfl hd _ _ hHI (fun q hq => by simp [up5, hq]) (fun q _ => rfl) (by simp [up5]) (fun hD => by simp [up5] at hD) (fun hD => by simp [up5] at hD) (fun hD => by simp [up5] at hD)
      · split
        · rename_i h3
          have hsp : h.todo (tOf s.txn) = (h.todo (tOf s.txn)).dropLast ++ [(h.todo (tOf s.txn)).getLastD 0] := by
            have hne : h.todo (tOf s.txn) ≠ [] := List.ne_nil_of_length_pos h3.2
            rw [List.getLastD_eq_getLast?, List.getLast?_eq_some_getLast hne]
            exact (List.dropLast_concat_getLast hne).symm
          have hch2 := hch
          rw [hsp, List.reverse_append] at hch2
          obtain ⟨u, hu, hk0, hk2, hkt, hpl, hul, hrest⟩ := hch2.top
          rw [hu]
          dsimp only
          intro hHI hr1 hr2
          refine H.app (tOf s.txn) ht _ hr1 rfl rfl hd _ _ hHI (fun q _ => rfl) (fun q hq => by simp [up5, hq]) (by simp [hd]) (fun _ => ?_) (fun _ j c hc hk ht' => ?_) (fun _ hk => ?_)
          · simp only [up5, if_true]
            exact Ch.clr (k := h.log.length) (get_last _ _) rfl rfl (by first | omega | (dsimp only; omega)) (hrest.snoc _)
          · simp only [up5, if_true]
            have hnd : ∀ a, h.todo (tOf s.txn) = (h.todo (tOf s.txn)).dropLast ++ [a] → ((j : Int) ∈ h.todo (tOf s.txn) ↔ (j : Int) ∈ (h.todo (tOf s.txn)).dropLast ∨ (j : Int) = a) := fun a ha => by
              conv => lhs; rw [ha]
              simp
            rw [hnd _ hsp]
            have low : (j : Int) ∈ (h.todo (tOf s.txn)).dropLast → c.lsn ≤ u.prev := fun hj => by
              obtain ⟨c', h1, _, _, _, h5⟩ := hrest.le (j : Int) (by simpa using hj)
              have : c' = c := by
                rw [Int.toNat_natCast, hc] at h1
                simpa using h1.symm
              subst this
              exact h5
            constructor
            · intro hj
              have := low hj
              exact ⟨.inl hj, by omega⟩
            · rintro ⟨hj | hj, hn⟩
              · exact hj
              · exfalso
                rw [← hj, Int.toNat_natCast, hc] at hu
                have : c = u := by simpa using hu
                subst this
                exact hn ⟨trivial, by omega⟩
          · simp at hk
        · intro hHI hr1 hr2
          dsimp only at hHI hr1 hr2
          refine H.app (tOf s.txn) ht _ hr1 rfl rfl hd _ _ hHI (fun q _ => rfl) (fun q hq => by simp [up5, hq]) (by simp [hd]) (fun _ => ?_) (fun _ j c hc hk ht' => ?_) (fun _ hk => ?_)
          · simp only [up5, if_true, List.reverse_append, List.reverse_cons, List.reverse_nil, List.nil_append, List.cons_append]
            exact Ch.upd (k := h.log.length) (get_last _ _) rfl rfl (by first | omega | (dsimp only; omega)) (hch.snoc _)
          · have hj := (List.getElem?_eq_some_iff.1 hc).1
            simp only [up5, if_true, List.mem_append, List.mem_singleton]
            constructor
            · rintro (h1 | h1)
              · exact ⟨h1, by simp⟩
              · omega
            · exact fun h1 => .inl h1.1
          · simp [up5]
theorem OI.fold : ∀ (l : List Sp) (k : Nat) (h : Hs), OI h → OI (histF k h l)
  | [], _, _, H => H
  | s :: r, k, h, H => OI.fold r (k + 1) _ (H.step k s)
end Go.Proofs.Ytmanokhadppeeaa
