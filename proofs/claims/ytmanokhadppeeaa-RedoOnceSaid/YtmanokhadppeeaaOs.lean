/- redo: the plain law of RedoOnce: what Undo tells of a history. -/
import Derived.Test.YtmanokhadppeeaaOr
namespace Go.Proofs.Ytmanokhadppeeaa
open Go.RowKit
set_option linter.unusedSimpArgs false
set_option linter.unusedVariables false
theorem loser_st : ∀ (ts : List Tx), ∀ x ∈ loserR ts, 0 < x.next ∧ ∃ e ∈ ts, e.id = x.id ∧ e.last = x.next ∧ ¬ e.st = 2
  | [], x, h => by cases h
  | t :: r, x, h => by
    unfold loserR at h
    have ih := loser_st r x
    split at h
    · obtain ⟨h1, e, he, h2⟩ := ih h
      exact ⟨h1, e, by simp [he], h2⟩
    · split at h
      · obtain ⟨h1, e, he, h2⟩ := ih h
        exact ⟨h1, e, by simp [he], h2⟩
      · rcases List.mem_cons.1 h with rfl | h
        · exact ⟨by simp only; omega, t, by simp, rfl, rfl, by assumption⟩
        · obtain ⟨h1, e, he, h2⟩ := ih h
          exact ⟨h1, e, by simp [he], h2⟩
def losN (ts : List Tx) : Nat := (ts.filter fun e => !(e.st == 2)).length
theorem loser_count : ∀ (ts : List Tx), (∀ e ∈ ts, 0 < e.last) → (loserR ts).length = losN ts
  | [], _ => rfl
  | t :: r, h => by
    have ih := loser_count r (fun e he => h e (by simp [he]))
    have h0 := h t (by simp)
    unfold losN at ih ⊢
    unfold loserR
    by_cases e : t.st = 2
    · rw [if_pos e, List.filter_cons_of_neg (by simp [e])]
      exact ih
    · rw [if_neg e, if_neg (by omega), List.filter_cons_of_pos (by simp [e])]
      simp only [List.length_cons]
      rw [ih]
theorem once_plain {zs : List Az} {h : Hs} (hz : zs.map Az.c = h.log) (HO : OI h) (HE : EI h) (hL : ∀ x ∈ zs.map Az.ln, GL x ∧ 0 < x.lsn) {ts : List Tx} (hts : ts.Perm (anR (zs.map Az.ln)).ts) :
    (undoAll (zs.map Az.ln) ts).filter (fun o => o.kind == 3) = (openTo (zs.map Az.ln) (zs.map Az.ln).length).map (clrO (zs.map Az.ln)) ∧ ((undoAll (zs.map Az.ln) ts).filter fun o => o.kind == 6).length = losN ts ∧ ∀ o ∈ undoAll (zs.map Az.ln) ts, o.kind = 3 ∨ o.kind = 6 := by
  have hop := open_iff hz HO
  have hLM := LM.of hz HO.hi
  have hE : ∀ t : Nat, entL (zs.map Az.ln) t = if h.last t = 0 then none else some (h.last t, if h.done t = true then 2 else 1) := fun t => by rw [ent_az, hz]; exact HE t
  have hmem := openTo_mem (zs.map Az.ln) (zs.map Az.ln).length
  have hdesc := openTo_desc (zs.map Az.ln) (zs.map Az.ln).length
  have hbd : ∀ k : Nat, openB (zs.map Az.ln) k = true → k < (zs.map Az.ln).length := fun k hk => by
    unfold openB at hk
    cases e : (zs.map Az.ln)[k]? with
    | none => rw [e] at hk; cases hk
    | some x => exact (List.getElem?_eq_some_iff.1 e).1
  generalize zs.map Az.ln = L at *
  have hT := TI.all (fun x hx => (hL x hx).1)
  have hlk : ∀ e ∈ ts, entL L e.id = some (e.last, e.st) := fun e he => by
    rw [← hT.lk]; exact look_mem hT.idn (hts.mem_iff.1 he)
  have hpos : ∀ e ∈ ts, 0 < e.last := fun e he => ent_pos (fun x hx => (hL x hx).2) _ _ _ (hlk e he)
  have hids : (ts.map Tx.id).Nodup := (hts.map Tx.id).nodup_iff.2 hT.idn
  have hnod := (loser_sub ts).nodup hids
  have hid1 : ∀ e ∈ ts, 1 ≤ e.id ∧ e.id ≤ 4 := fun e he => hT.idr _ ((hts.map Tx.id).mem_iff.1 (List.mem_map_of_mem he))
  have hlo : ∀ x ∈ loserR ts, 0 < x.next ∧ x.id = (x.id.toNat : Int) ∧ h.last x.id.toNat = x.next ∧ h.done x.id.toNat = false := fun x hx => by
    obtain ⟨h1, e, he, h2, h3, h4⟩ := loser_st ts x hx
    have h5 := hid1 e he
    have h6 := hlk e he
    have h7 : x.id = (x.id.toNat : Int) := by omega
    rw [h2, h7, hE] at h6
    split at h6
    · cases h6
    · simp only [Option.some.injEq, Prod.mk.injEq] at h6
      refine ⟨h1, h7, by omega, ?_⟩
      cases hd : h.done x.id.toNat with
      | false => rfl
      | true => rw [hd] at h6; simp at h6; omega
  obtain ⟨s, e1, e2, e3, e4⟩ := undoR_open hLM (fun c hc => (HO.hi.ok c hc).lsn) (loMu (loserR ts) + 1) (loserR ts) (endR ts) (fun i => (h.todo i.toNat).reverse) (openTo L L.length) (Nat.lt_succ_self _) (fun x hx => by
    obtain ⟨h1, h2, h3, h4⟩ := hlo x hx
    have := HO.ch _ h4
    rw [h3, ← h2] at this
    exact ⟨h1, this⟩) hnod hdesc (fun i => by
    rw [hmem i]
    constructor
    · rintro ⟨k, rfl, h1, h2⟩
      obtain ⟨t, h3, h4⟩ := (hop k).1 h2
      have hne : ¬ h.last t = 0 := fun e => by
        rw [(HO.zero t e).1] at h4; cases h4
      have hent := hE t
      rw [if_neg hne, h3, ← hT.lk] at hent
      unfold look at hent
      cases hf : (anR L).ts.find? (fun q => q.id == (t : Int)) with
      | none => rw [hf] at hent; cases hent
      | some q =>
        rw [hf] at hent
        have hq := List.mem_of_find?_eq_some hf
        have hqi : q.id = (t : Int) := by have := List.find?_some hf; simpa using this
        have hqt : q ∈ ts := hts.mem_iff.2 hq
        simp at hent
        have hm := loser_mem ts q hqt (by omega) (hpos q hqt)
        obtain ⟨x, hx, hxi⟩ := List.mem_map.1 hm
        refine ⟨x, hx, ?_⟩
        have : x.id.toNat = t := by omega
        rw [this]
        simpa using h4
    · rintro ⟨x, hx, hi⟩
      obtain ⟨h1, h2, h3, h4⟩ := hlo x hx
      obtain ⟨c, g1, g2, _⟩ := (HO.ch _ h4).le i hi
      have hi2 : i = (i.toNat : Int) := by omega
      have ho : openB L i.toNat = true := (hop _).2 ⟨_, h4, by rw [← hi2]; simpa using hi⟩
      exact ⟨i.toNat, hi2, hbd _ ho, ho⟩)
  have e0 : undoAll L ts = s := by
    unfold undoAll
    rw [e1, endR_nil ts hpos, List.nil_append]
  rw [e0]
  exact ⟨e2, by rw [e3, loser_count ts hpos], e4⟩
end Go.Proofs.Ytmanokhadppeeaa
