/- redo: the plain law of RedoOnce: who is open at the history's end. -/
import Derived.Test.YtmanokhadppeeaaOo
namespace Go.Proofs.Ytmanokhadppeeaa
open Go.RowKit
set_option linter.unusedSimpArgs false
set_option linter.unusedVariables false
def clN (c : Co) : Ln := Az.ln ⟨c, none, 0, none, 0⟩
theorem ent_snoc (L : List Ln) (x : Ln) (t : Int) : entL (L ++ [x]) t = entF t (entL L t) x := by
  unfold entL
  rw [List.foldl_append]; rfl
theorem ent_az (zs : List Az) (t : Int) : entL (zs.map Az.ln) t = entL ((zs.map Az.c).map clN) t := by
  unfold entL
  rw [List.map_map, List.foldl_map, List.foldl_map]
  rfl
def EI (h : Hs) : Prop := ∀ t : Nat, entL (h.log.map clN) t = if h.last t = 0 then none else some (h.last t, if h.done t = true then 2 else 1)
theorem EI.zero : EI h0 := fun t => by simp [h0, entL]
theorem EI.app {h : Hs} (H : EI h) (t : Nat) (x : Co) (n : Int) (hn : n ≠ 0) (hxl : x.lsn = n) (hxt : x.txn = (t : Int)) (hk : x.kind = 1 ∨ x.kind = 2 ∨ x.kind = 3 ∨ x.kind = 4) (hd : h.done t = false) (D : Nat → Bool) (T : Nat → List Int) (hD : ∀ q, q ≠ t → D q = h.done q) (hDt : D t = true ↔ x.kind = 4) : EI ⟨h.log ++ [x], up5 h.last t n, D, T⟩ := by
  intro q
  simp only [List.map_append, List.map_cons, List.map_nil]
  rw [ent_snoc, H q]
  unfold entF
  have e1 : (clN x).txn = x.txn := rfl
  have e2 : (clN x).kind = x.kind := rfl
  have e3 : (clN x).lsn = x.lsn := rfl
  rw [e1, hxt]
  by_cases e : q = t
  · subst e
    rw [if_pos rfl]
    simp only [up5, if_true, hd]
    rw [if_neg hn]
    unfold entS
    rw [e2, e3, hxl]
    by_cases h4 : x.kind = 4
    · rw [if_pos h4, if_pos (hDt.2 h4)]
    · have hDf : ¬ D q = true := fun h => h4 (hDt.1 h)
      rw [if_neg h4, if_neg (by omega), if_neg (by omega), if_neg hDf]
      split <;> rfl
  · rw [if_neg (by omega)]
    simp only [up5, if_neg e, hD q e]
theorem EI.step {h : Hs} (H : EI h) (HO : OI h) (k : Nat) (s : Sp) : EI (stepH k h s) := by
  obtain ⟨hr1, hr2⟩ := rec_ok k h s HO.hi
  have hch := HO.ch (tOf s.txn)
  unfold stepH
  split
  · exact H
  · rename_i hd
    have hd : h.done (tOf s.txn) = false := by simpa using hd
    revert hr1 hr2
    unfold recR
    dsimp only
    split
    · intro hr1 hr2
      exact H.app _ _ _ (by omega) rfl rfl hr1.kind hd _ _ (fun q _ => rfl) (by simp [hd])
    · split
      · intro hr1 hr2
        exact H.app _ _ _ (by omega) rfl rfl hr1.kind hd _ _ (fun q hq => by simp [up5, hq]) (by simp [up5])
      · split
        · split
          · intro hr1 hr2
            exact H.app _ _ _ (by omega) rfl rfl hr1.kind hd _ _ (fun q _ => rfl) (by simp [hd])
          · intro hr1 hr2
            exact H.app _ _ _ (by omega) rfl rfl hr1.kind hd _ _ (fun q _ => rfl) (by simp [hd])
        · intro hr1 hr2
          exact H.app _ _ _ (by omega) rfl rfl hr1.kind hd _ _ (fun q _ => rfl) (by simp [hd])
theorem EI.fold : ∀ (l : List Sp) (k : Nat) (h : Hs), EI h → OI h → EI (histF k h l)
  | [], _, _, H, _ => H
  | s :: r, k, h, H, HO => EI.fold r (k + 1) _ (H.step HO k s) (HO.step k s)
theorem LM.of {zs : List Az} {h : Hs} (hz : zs.map Az.c = h.log) (H : HI h) : LM h.log (zs.map Az.ln) := by
  refine ⟨fun k c hc => ?_, fun i hi => ?_⟩
  · rw [← hz, List.getElem?_map] at hc
    cases e : zs[k]? with
    | none => rw [e] at hc; cases hc
    | some z =>
      rw [e] at hc
      simp only [Option.map_some, Option.some.injEq] at hc
      subst hc
      exact ⟨z.ln, by rw [List.getElem?_map, e]; rfl, rfl, rfl, rfl, rfl, rfl⟩
  · have hi' : i < zs.length := by simpa using hi
    have e1 : zs.length = h.log.length := by rw [← hz, List.length_map]
    have := H.lsn i (by omega)
    rw [← this, List.getElem_map]
    show zs[i].c.lsn = _
    congr 1
    simp [← hz]
/-- open: an update of one that never committed, not undone behind it -/
def wonB (L : List Ln) (i : Nat) (r : Ln) : Bool := (L.drop (i + 1)).any fun x => (x.kind == 4) && (x.txn == r.txn)
def goneN (L : List Ln) (i : Nat) (r : Ln) : Nat := ((L.drop (i + 1)).filter fun x => (x.kind == 3) && (x.txn == r.txn) && decide (x.next < r.lsn)).length
def openB (L : List Ln) (i : Nat) : Bool := match L[i]? with
  | none => false
  | some r => (r.kind == 2) && !wonB L i r && (goneN L i r == 0)
/-- the open ones below a place, the newest first -/
def openTo (L : List Ln) : Nat → List Int
  | 0 => []
  | n + 1 => if openB L n = true then (n : Int) :: openTo L n else openTo L n
theorem openTo_mem (L : List Ln) : ∀ (n : Nat) (i : Int), i ∈ openTo L n ↔ ∃ k : Nat, i = (k : Int) ∧ k < n ∧ openB L k = true
  | 0, i => by simp [openTo]
  | n + 1, i => by
    have ih := openTo_mem L n i
    unfold openTo
    split
    · rename_i h
      rw [List.mem_cons, ih]
      constructor
      · rintro (e | ⟨k, h1, h2, h3⟩)
        · exact ⟨n, e, by omega, h⟩
        · exact ⟨k, h1, by omega, h3⟩
      · rintro ⟨k, h1, h2, h3⟩
        by_cases e : k = n
        · subst e; exact .inl h1
        · exact .inr ⟨k, h1, by omega, h3⟩
    · rename_i h
      rw [ih]
      constructor
      · rintro ⟨k, h1, h2, h3⟩
        exact ⟨k, h1, by omega, h3⟩
      · rintro ⟨k, h1, h2, h3⟩
        by_cases e : k = n
        · subst e; exact absurd h3 h
        · exact ⟨k, h1, by omega, h3⟩
theorem openTo_desc (L : List Ln) : ∀ n : Nat, (openTo L n).Pairwise (fun a b => b < a)
  | 0 => List.Pairwise.nil
  | n + 1 => by
    unfold openTo
    split
    · rw [List.pairwise_cons]
      refine ⟨fun i hi => ?_, openTo_desc L n⟩
      obtain ⟨k, rfl, h, _⟩ := (openTo_mem L n i).1 hi
      omega
    · exact openTo_desc L n
end Go.Proofs.Ytmanokhadppeeaa
