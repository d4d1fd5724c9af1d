/- The same for a long region whose operations all yield one value, taken in the order of the text: a test that is quicker to reckon. -/
import Derived.Test.YtacbhkmkknicoaaDoorGrow2
namespace Go.Rg
open Go Go.RowKit
set_option linter.unusedSimpArgs false
section
variable {P : Program} {ops : Array Oper} {md : Region.Mode} {W : World} {Q : Exit → Act → World → Prop}
def backB (md : Region.Mode) (o : Oper) (k : Nat) : Bool := o.after.all fun e => !Region.binds md e || decide (e.on < k)
def sightB (md : Region.Mode) (ops : Array Oper) (o : Oper) (k : Nat) : List Oper → Bool
  | [] => true
  | oj :: r => (oj.after.any (fun e => Region.binds md e && e.on == k) || o.apart ops oj) && sightB md ops o k r
/-- n operations from number k on: each waits for earlier ones alone, and leaves the later ones' sight alone -/
def textL (md : Region.Mode) (ops : Array Oper) : Nat → List Oper → Nat → Bool
  | 0, _, _ => true
  | _ + 1, [], _ => false
  | n + 1, o :: r, k => backB md o k && sightB md ops o k r && textL md ops n r (k + 1)
/-- the first k are listed -/
structure FirstK (ops : Array Oper) (listed : Array Bool) (k : Nat) : Prop where
  size : listed.size = ops.size
  at_ : ∀ j, j < ops.size → listed.getD j true = decide (j < k)
theorem FirstK.atF {listed : Array Bool} {k j : Nat} (h : FirstK ops listed k) (hj : j < ops.size) : listed.getD j false = decide (j < k) := by
  have h1 := h.at_ j hj
  have hl : j < listed.size := by rw [h.size]; exact hj
  simp [hl] at h1 ⊢
  exact h1
theorem FirstK.set {listed : Array Bool} {k : Nat} (h : FirstK ops listed k) (hk : k < ops.size) : FirstK ops (listed.setIfInBounds k true) (k + 1) := by
  refine ⟨by simp [h.size], fun j hj => ?_⟩
  by_cases e : k = j
  · subst e
    have hl : k < listed.size := by rw [h.size]; exact hk
    simp [hl]
  · rw [getD_set_ne true e, h.at_ j hj]
    by_cases h1 : j < k
    · simp [h1]; omega
    · simp [h1]; omega
theorem sightB_spec {o : Oper} {k : Nat} : ∀ (l : List Oper), sightB md ops o k l = true → ∀ oj ∈ l, (oj.after.any (fun e => Region.binds md e && e.on == k) || o.apart ops oj) = true
  | [], _, oj, h => by cases h
  | x :: r, h, oj, hm => by
    simp only [sightB, Bool.and_eq_true] at h
    rcases List.mem_cons.1 hm with rfl | hm
    · exact h.1
    · exact sightB_spec r h.2 oj hm
theorem ready_same {l1 l2 : Array Bool} (hs : l1.size = l2.size) (h : ∀ j, l1.getD j true = l2.getD j true) : Region.ready md ops l1 = Region.ready md ops l2 := by
  have e : l1 = l2 := by
    apply Array.ext hs
    intro i h1 h2
    have := h i
    simpa [h1, h2] using this
  rw [e]
theorem orderB_text {n tl : Nat} (hn : n < ops.size) (hT : ∀ listed, FirstK ops listed n → Region.seqB md ops tl n listed = true) :
    ∀ (m k : Nat) (l : List Oper) (listed : Array Bool), k + m = n → (∀ j, l[j]? = ops[k + j]?) → FirstK ops listed k → textL md ops m l k = true → orderB md ops n tl (List.range' k m) listed = true
  | 0, k, l, listed, hk, _, hF, _ => by
    have : k = n := by omega
    subst this
    simpa [List.range', orderB] using hT listed hF
  | m + 1, k, [], listed, hk, hl, hF, h => by simp [textL] at h
  | m + 1, k, o :: r, listed, hk, hl, hF, h => by
    have h0 : ops[k]? = some o := by simpa using (hl 0).symm
    have hks : k < ops.size := (Array.getElem?_eq_some_iff.1 h0).1
    simp only [textL, Bool.and_eq_true] at h
    obtain ⟨⟨hb, hs⟩, ht⟩ := h
    have hr : k ∈ Region.ready md ops listed := mem_ready.2 ⟨by rw [hF.at_ k hks]; simp, o, h0, fun e he hbi => by
      have h1 := Array.all_eq_true_iff_forall_mem.1 hb e he
      simp only [hbi, Bool.not_true, Bool.false_or, decide_eq_true_eq] at h1
      rw [hF.atF (by omega)]
      simpa using h1⟩
    have hf : Region.free md ops listed k = true := by
      unfold Region.free
      rw [h0]
      rw [List.all_eq_true]
      intro j hj
      have hjs : j < ops.size := List.mem_range.1 hj
      by_cases e1 : j = k
      · simp [e1]
      · rw [hF.at_ j hjs]
        by_cases e2 : j < k
        · simp [e2]
        · have hm : ops[j] ∈ r := by
            have h2 := hl (j - k)
            rw [show k + (j - k) = j by omega, Array.getElem?_eq_getElem hjs] at h2
            have h3 : (o :: r)[j - k]? = r[j - k - 1]? := by
              rw [show j - k = (j - k - 1) + 1 by omega]; rfl
            rw [h3] at h2
            exact List.mem_of_getElem? h2
          have h4 := sightB_spec r hs _ hm
          rw [Array.getElem?_eq_getElem hjs]
          simp only [h4, Bool.or_true]
    rw [List.range'_succ]
    simp only [orderB, Bool.and_eq_true, decide_eq_true_eq]
    refine ⟨⟨⟨by omega, by simpa using hr⟩, hf⟩, ?_⟩
    exact orderB_text hn hT m (k + 1) r _ (by omega) (fun j => by have := hl (j + 1); simpa [Nat.add_assoc, Nat.add_comm 1 j] using this) (hF.set hks) ht
/-- all that is asked, closed -/
def textB (l : List Oper) (n : Nat) : Bool :=
  Region.noSelect l.toArray && decide (n < l.length) && sinkF .any l.toArray n [] && Region.chainB .any l.toArray n && textL .any l.toArray n l 0 && Region.seqB .any l.toArray (l.length - n) n ((List.replicate n true ++ List.replicate (l.length - n) false).toArray)
theorem region_text {id : Nat} {a : Act} {w : World} {l : List Oper} (n : Nat) (hW : Up W { w with drawn := w.drawn + 1 }) (hm : P.follows .mixedOrders = true) (hB : textB l n = true)
    (hQ : ∀ c (a : Act) d u w, Q (.panic c) (a.put d u) w → Q (.panic c) a w)
    (h : wpDets P l.toArray W (fun U Ψ a' => ∀ w', Known W w' U Ψ → wpList P l.toArray Q (l.drop n) a' w') [] [] (l.take n) a) : (Code.region id l.toArray true).wp P Q a w := by
  simp only [textB, Bool.and_eq_true, decide_eq_true_eq] at hB
  obtain ⟨⟨⟨⟨⟨hsel, hn'⟩, hs⟩, hc⟩, ht⟩, hq⟩ := hB
  have hn : n < l.toArray.size := by simpa using hn'
  have hdl : (l.drop n).length = l.toArray.size - n := by simp
  have inv0 : HeadInv .any l.toArray n (Array.replicate l.toArray.size false) :=
    ⟨by simp, fun j oj _ hl => (by rw [getD_replicate_false] at hl; cases hl), fun t _ ht => getD_in (by simpa using ht) (getD_replicate_false _ _)⟩
  have F0 : FirstK l.toArray (Array.replicate l.toArray.size false) 0 := ⟨by simp, fun j hj => by simp at hj; simp [hj]⟩
  have hT : ∀ listed, FirstK l.toArray listed n → Region.seqB .any l.toArray (l.toArray.size - n) n listed = true := fun listed hF => by
    have e : listed = (List.replicate n true ++ List.replicate (l.length - n) false).toArray := by
      apply Array.ext
      · rw [hF.size]; simp; omega
      · intro i h1 h2
        have hi : i < l.toArray.size := by rw [← hF.size]; exact h1
        have h3 := hF.at_ i hi
        simp [h1] at h3
        rw [h3]
        by_cases hin : i < n
        · simp [List.getElem_append, hin]
        · simp [List.getElem_append, hin]
    rw [e]
    simpa using hq
  have hord := orderB_text hn hT n 0 l _ (by omega) (fun j => by simp) F0 ht
  have hops : opsAt l.toArray (List.range' 0 n) = l.take n := by
    unfold opsAt
    apply List.ext_getElem?
    intro i
    have : ∀ (m k : Nat), k + m ≤ l.length → (List.range' k m).filterMap (fun j => l.toArray[j]?) = (l.drop k).take m := by
      intro m
      induction m with
      | zero => intro k _; simp
      | succ m ih =>
        intro k hk
        have hkl : k < l.length := by omega
        rw [List.range'_succ, List.filterMap_cons]
        have h1 : l.toArray[k]? = some l[k] := by simp [hkl]
        rw [h1]
        simp only
        rw [ih (k + 1) (by omega), List.drop_eq_getElem_cons hkl, List.take_succ_cons]
    rw [this n 0 (by omega)]
    simp
  have hE : ∀ U Ψ listed a, Ends .any l.toArray (l.toArray.size - n) n (fun U Ψ a' => ∀ w', Known W w' U Ψ → wpList P l.toArray Q (l.drop n) a' w') U Ψ listed a → ∀ w, Known W w U Ψ → wpAny P .any l.toArray Q (l.toArray.size - n) listed a w := fun U Ψ listed a' hL w' hw' => by
    have := wpAny_of_seq (md := .any) (Q' := Q) (l.drop n) n listed a' w' (fun j => by simp [List.getElem?_drop]) (by rw [hdl]; exact hL.1) (hL.2 w' hw')
    rwa [hdl] at this
  have H := detsU_lex (md := .any) (F := []) (W := W) hsel hs hc hn [] (by simp) (by simp) (by simp) hQ hE [] (List.range' 0 n) _ a inv0 (by simp) (by simpa using hord) (by rw [hops]; exact h)
  refine wp_region_any hm ?_
  have := wpAny_of_U hE _ _ _ _ _ (fun _ _ _ _ => trivial) H _ ⟨hW, fun _ h => h.elim, trivial⟩
  rw [show (List.range' 0 n).length + (([] : List Nat).length + ([] : List Nat).length) + (l.toArray.size - n) = l.toArray.size by simp; omega] at this
  exact this
end
end Go.Rg
