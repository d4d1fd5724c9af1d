/- Texts of this claim, put together: walks of functions and plain laws, of no condition. -/
import Derived.Test.YtaogpifcfmjcbaaCc1
import Derived.LoopTactic
import Derived.ArgAppend
import Derived.Laws.Tables
import Derived.Lib.AppendZeros
section
namespace Go.Rg
open Go Go.RowKit
set_option linter.unusedSimpArgs false
set_option linter.unusedVariables false
def cnt (Cs : List Nat) : Nat → Nat
  | 0 => 0
  | m + 1 => cnt Cs m + (if Cs.contains m then 1 else 0)
theorem cnt_le (Cs : List Nat) : ∀ {i j : Nat}, i ≤ j → cnt Cs i ≤ cnt Cs j
  | i, 0, h => by have : i = 0 := by omega
                  subst this; exact Nat.le_refl _
  | i, j + 1, h => by
    by_cases e : i = j + 1
    · rw [e]; exact Nat.le_refl _
    · have := cnt_le Cs (i := i) (j := j) (by omega)
      simp only [cnt]; omega
theorem cnt_lt {Cs : List Nat} {i j : Nat} (hi : Cs.contains i = true) (h : i < j) : cnt Cs i < cnt Cs j := by
  have h1 := cnt_le Cs (i := i + 1) (j := j) h
  simp only [cnt, hi, if_true] at h1
  omega
theorem cnt_hit {Cs : List Nat} : ∀ {j s : Nat}, s < cnt Cs j → ∃ i, i < j ∧ Cs.contains i = true ∧ cnt Cs i = s
  | 0, s, h => by simp [cnt] at h
  | j + 1, s, h => by
    by_cases h1 : s < cnt Cs j
    · obtain ⟨i, a, b, c⟩ := cnt_hit h1
      exact ⟨i, by omega, b, c⟩
    · simp only [cnt] at h
      split at h
      · rename_i hc
        exact ⟨j, by omega, hc, by omega⟩
      · omega
def BringsS (P : Program) (R : Value → World → Prop) : Result Next → Prop
  | .ok (.value u) w => R u w
  | .ok .skip w => R undef w
  | .ok (.enter f args) w => Calls P f args w fun e w' => ∃ u, e = .returned u ∧ R u w'
  | _ => False
theorem bringsS_value {P : Program} {R : Value → World → Prop} {u : Value} {w : World} : BringsS P R (.ok (.value u) w) = R u w := rfl
theorem bringsS_skip {P : Program} {R : Value → World → Prop} {w : World} : BringsS P R (.ok .skip w) = R undef w := rfl
theorem bringsS_enter {P : Program} {R : Value → World → Prop} {f : FuncId} {args : Array Value} {w : World} : BringsS P R (.ok (.enter f args) w) = Calls P f args w fun e w' => ∃ u, e = .returned u ∧ R u w' := rfl
def Still (w0 : World) (v : Value) : Result Next → Prop
  | .ok (.value u) w => u = v ∧ w = w0
  | .ok .skip w => undef = v ∧ w = w0
  | _ => False
theorem still_value {v u : Value} {w0 w : World} : Still w0 v (.ok (.value u) w) = (u = v ∧ w = w0) := rfl
theorem still_skip {v : Value} {w0 w : World} : Still w0 v (.ok .skip w) = (undef = v ∧ w = w0) := rfl
theorem still_enter {v : Value} {w0 w : World} {f : FuncId} {args : Array Value} : Still w0 v (.ok (.enter f args) w) = False := rfl
section
variable (P : Program) (ops : Array Oper) (Cs : List Nat) (Ws : List (Nat × Nat)) (St : Nat → (Nat → Value) → World → Prop)
def limC (i s : Nat) : Prop := ∀ k, (i, k) ∈ Ws → s ≤ cnt Cs k
def StepC (v : Nat → Value) (c : Option Value) (i s : Nat) (o : Oper) (a : Act) : Prop :=
  if Cs.contains i then Region.wanted o (yielded ops a.tmps) = true ∧ ∀ w, St s v w → BringsS P (fun u w' => match c with
      | some c => u = c ∧ St (s + 1) v w'
      | none => St (s + 1) (upd v i u) w') ((execOp a.eval o).run P w)
  else match c with
    | some c => (Region.wanted o (yielded ops a.tmps) = true ∧ ∀ s w, limC Cs Ws i s → St s v w → Still w c ((execOp a.eval o).run P w)) ∨ (Region.wanted o (yielded ops a.tmps) = false ∧ c = undef)
    | none => False
def wpC (v : Nat → Value) (L : Nat → Act → Prop) : Nat → List (Option Value) → List Oper → Nat → Act → Prop
  | s, [], [], _, a => L s a
  | s, c :: K, o :: r, i, a => StepC P ops Cs Ws St v c i s o a ∧ wpC v L (s + (if Cs.contains i then 1 else 0)) K r (i + 1) (a.put o.dst (c.getD (v i)))
  | _, _, _, _, _ => False
end
section
variable {P : Program} {ops : Array Oper} {Cs : List Nat} {Ws : List (Nat × Nat)} {St : Nat → (Nat → Value) → World → Prop} {v : Nat → Value} {L : Nat → Act → Prop}
theorem wpC_len : ∀ (K : List (Option Value)) (l : List Oper) (s i : Nat) (a : Act), wpC P ops Cs Ws St v L s K l i a → K.length = l.length
  | [], [], _, _, _, _ => rfl
  | c :: K, o :: r, s, i, a, h => by simp only [List.length_cons]; rw [wpC_len K r _ _ _ h.2]
  | [], _ :: _, _, _, _, h => h.elim
  | _ :: _, [], _, _, _, h => h.elim
theorem wpC_at : ∀ (K : List (Option Value)) (l : List Oper) (i : Nat) (a : Act) (f : Nat → Value), wpC P ops Cs Ws St v L (cnt Cs i) K l i a → (∀ k, k < l.length → f (i + k) = ((K[k]?).getD none).getD (v (i + k))) →
    ∀ m o, l[m]? = some o → StepC P ops Cs Ws St v ((K[m]?).getD none) (i + m) (cnt Cs (i + m)) o (putL (fun j => decide (j < i + m)) f l i a)
  | [], [], _, _, _, _, _, m, o, h => by simp at h
  | c :: K, o0 :: r, i, a, f, h, hf, 0, o, ho => by
    have e0 : o0 = o := by simpa using ho
    subst e0
    have e1 : putL (fun j => decide (j < i + 0)) f (o0 :: r) i a = a := putL_none _ _ _ (fun k _ => by simp)
    rw [e1]
    simpa using h.1
  | c :: K, o0 :: r, i, a, f, h, hf, m + 1, o, ho => by
    have h2 := wpC_at K r (i + 1) _ f h.2 (fun k hk => by have := hf (k + 1) (by simp; omega); rw [show i + 1 + k = i + (k + 1) by omega]; simpa using this) m o (by simpa using ho)
    have h0 := hf 0 (by simp)
    simp at h0
    unfold putL
    have e : (if decide (i < i + (m + 1)) then a.put o0.dst (f i) else a) = a.put o0.dst (c.getD (v i)) := by
      rw [if_pos (by simp), h0]
    rw [e, show i + (m + 1) = i + 1 + m by omega]
    simpa using h2
  | [], _ :: _, _, _, _, h, _, _, _, _ => h.elim
  | _ :: _, [], _, _, _, h, _, _, _, _ => h.elim
theorem wpC_end : ∀ (K : List (Option Value)) (l : List Oper) (i : Nat) (a : Act) (f : Nat → Value), wpC P ops Cs Ws St v L (cnt Cs i) K l i a → (∀ k, k < l.length → f (i + k) = ((K[k]?).getD none).getD (v (i + k))) →
    L (cnt Cs (i + l.length)) (putL (fun _ => true) f l i a)
  | [], [], _, _, _, h, _ => h
  | c :: K, o0 :: r, i, a, f, h, hf => by
    have h2 := wpC_end K r (i + 1) _ f h.2 (fun k hk => by have := hf (k + 1) (by simp; omega); rw [show i + 1 + k = i + (k + 1) by omega]; simpa using this)
    have h0 := hf 0 (by simp)
    simp at h0
    unfold putL
    simp only [if_true, h0]
    rw [show i + (o0 :: r).length = i + 1 + r.length by simp; omega]
    exact h2
  | [], _ :: _, _, _, _, h, _ => h.elim
  | _ :: _, [], _, _, _, h, _ => h.elim
end
def rch (md : Region.Mode) (ops : Array Oper) : Nat → Nat → Nat → Bool
  | 0, _, _ => false
  | f + 1, j, i => match ops[j]? with
    | some o => o.after.any fun e => Region.binds md e && (e.on == i || rch md ops f e.on i)
    | none => false
theorem rch_spec {md : Region.Mode} {ops : Array Oper} {n : Nat} {listed : Array Bool} (inv : HeadInv md ops n listed) : ∀ (f j i : Nat), rch md ops f j i = true → (listed.getD j false = true ∨ j ∈ Region.ready md ops listed) → listed.getD i false = true
  | 0, j, i, h, _ => by cases h
  | f + 1, j, i, h, hj => by
    unfold rch at h
    split at h
    · rename_i o ho
      obtain ⟨e, he, hbe⟩ := Array.any_eq_true'.1 h
      simp only [Bool.and_eq_true, Bool.or_eq_true, beq_iff_eq] at hbe
      have hon : listed.getD e.on false = true := by
        rcases hj with hj | hj
        · exact inv.closed j o ho hj e he hbe.1
        · obtain ⟨_, o2, ho2, hall⟩ := mem_ready.1 hj
          have : o2 = o := Option.some.inj (ho2.symm.trans ho)
          subst this
          exact hall e he hbe.1
      rcases hbe.2 with h2 | h2
      · rw [← h2]; exact hon
      · exact rch_spec inv f e.on i h2 (.inl hon)
    · cases h
def chB (md : Region.Mode) (ops : Array Oper) (Cs : List Nat) : Bool := Cs.all fun j => Cs.all fun i => decide (j ≤ i) || rch md ops ops.size j i
def lmB (md : Region.Mode) (ops : Array Oper) (n : Nat) (Cs : List Nat) (Ws : List (Nat × Nat)) : Bool := Ws.all fun p => Cs.contains p.2 && decide (p.2 < n) && rch md ops ops.size p.2 p.1
section
variable {P : Program} {ops : Array Oper} {md : Region.Mode} {Q : Exit → Act → World → Prop}
section
variable {l : List Oper} {n : Nat} {Cs : List Nat} {Ws : List (Nat × Nat)} {St : Nat → (Nat → Value) → World → Prop} {K : List (Option Value)} {a0 : Act}
theorem region_chain0 {id : Nat} {w : World} (n : Nat) (Cs : List Nat) (Ws : List (Nat × Nat)) (St : Nat → (Nat → Value) → World → Prop) (K : List (Option Value))
    (hW : ∀ v, St 0 v { w with drawn := w.drawn + 1 }) (hm : P.follows .mixedOrders = true) (hB : typedB l n [] [] [] = true) (hC : chB .any l.toArray Cs = true) (hL : lmB .any l.toArray n Cs Ws = true)
    (hQ : ∀ c (a : Act) d u w, Q (.panic c) (a.put d u) w → Q (.panic c) a w)
    (h : ∀ v : Nat → Value, wpC P l.toArray Cs Ws St v (fun s a' => ∀ w', St s v w' → wpList P l.toArray Q (l.drop n) a' w') 0 K (l.take n) 0 a0) :
    (Code.region id l.toArray true).wp P Q a0 w := by
  simp only [typedB, Bool.and_eq_true, decide_eq_true_eq] at hB
  obtain ⟨⟨⟨⟨⟨⟨hDF, hsel⟩, hn'⟩, hs⟩, hc⟩, hall⟩, hseq⟩ := hB
  have hn : n < l.toArray.size := by simpa using hn'
  have hselS := Region.noSelect_spec hsel
  have one : ∀ i, i < n → ∀ o, l.toArray[i]? = some o → OneB .any l.toArray l (l.take n) n [] [] o i := fun i hi o ho => by
    have h1 : (l.take n)[i]? = some o := by rw [List.getElem?_take_of_lt hi]; simpa using ho
    have := allB_spec (l.take n) 0 hall i o h1
    rwa [Nat.zero_add] at this
  have take_at : ∀ i o, (l.take n)[i]? = some o → i < n ∧ l.toArray[i]? = some o := fun i o ho => by
    have hi : i < n := by
      have := (List.getElem?_eq_some_iff.1 ho).1
      simp at this; omega
    rw [List.getElem?_take_of_lt hi] at ho
    exact ⟨hi, by simpa using ho⟩
  have hlen : ∀ v, K.length = (l.take n).length := fun v => wpC_len K _ 0 0 a0 (h v)
  have htl : (l.take n).length = n := by simp at hn ⊢; omega
  let free : Nat → Bool := fun k => ((K[k]?).getD none).isNone
  let vf : (Nat → Value) → Nat → Value := fun v k => valOf K v k
  have dstne : ∀ i j o o', i < n → j < n → i ≠ j → l.toArray[i]? = some o → l.toArray[j]? = some o' → ∀ d, o'.dst = some d → o.dst ≠ some d := fun i j o o' hi hj hne ho ho' d hd => by
    have h1 := rowB_spec (l.take n) 0 (one i hi o ho).row j o' (by rw [List.getElem?_take_of_lt hj]; simpa using ho')
    rw [Nat.zero_add] at h1
    unfold pairB at h1
    rw [hd] at h1
    simp only [Bool.or_eq_true, decide_eq_true_eq, hne, false_or, Bool.and_eq_true, bne_iff_ne, ne_eq] at h1
    exact h1.1
  let FR : (Nat → Bool) → (Nat → Value) → Act := fun S v => putL S (vf v) (l.take n) 0 a0
  have more : ∀ (S S' : Nat → Bool) (v : Nat → Value) (j : Nat) (o : Oper) (u : Value), j < n → l.toArray[j]? = some o → S j = false → S' j = true → (∀ k, k ≠ j → S' k = S k) → (free j = false → vf v j = u) →
      (FR S v).put o.dst u = FR S' (if free j then upd v j u else v) := fun S S' v j o u hj ho h1 h2 h3 h4 => by
    have hold : ∀ k, k ≠ j → vf (if free j then upd v j u else v) k = vf v k := fun k hk => by
      show ((K[k]?).getD none).getD _ = ((K[k]?).getD none).getD _
      split
      · simp [upd, hk]
      · rfl
    have hnew : vf (if free j then upd v j u else v) j = u := by
      cases hfj : free j
      · simpa using h4 hfj
      · show ((K[j]?).getD none).getD _ = u
        have : (K[j]?).getD none = none := by simpa [free] using hfj
        rw [this]; simp [upd]
    exact putL_more (l.take n) 0 a0 j o u (by rw [List.getElem?_take_of_lt hj]; simpa using ho) (by rw [Nat.zero_add]; exact h1) (by rw [Nat.zero_add]; exact h2) (by rw [Nat.zero_add]; exact hnew)
      (fun k hk => by rw [Nat.zero_add]; exact ⟨h3 k hk, hold k hk⟩)
      (fun k o' hk ho' d hd => by
        obtain ⟨hkn, hko⟩ := take_at k o' ho'
        intro hd2
        exact dstne j k o o' hj hkn (Ne.symm hk) ho hko d hd2 hd)
  have sees : ∀ (listed : Array Bool) (v : Nat → Value) (i : Nat) (o : Oper), i < n → l.toArray[i]? = some o → i ∈ Region.ready .any l.toArray listed →
      ∀ t ∈ o.looksAt l.toArray, (FR (fun j => listed.getD j false) v).tmps[t]? = (FR (fun j => decide (j < i)) v).tmps[t]? := fun listed v i o hi ho hr t ht => by
    refine putL_same (l.take n) 0 a0 a0 rfl rfl (fun k o' ho' hd => ?_)
    obtain ⟨hkn, hko⟩ := take_at k o' ho'
    rw [Nat.zero_add]
    have hO := one i hi o ho
    obtain ⟨_, o2, ho2, hall2⟩ := mem_ready.1 hr
    have e2 : o2 = o := Option.some.inj (ho2.symm.trans ho)
    subst e2
    by_cases hik : i = k
    · subst hik
      have e3 : o' = o2 := Option.some.inj (hko.symm.trans ho)
      subst e3
      exact absurd ht (hO.own t hd)
    · have h1 := rowB_spec (l.take n) 0 hO.row k o' ho'
      rw [Nat.zero_add] at h1
      unfold pairB at h1
      rw [hd] at h1
      have hct : (o2.looksAt l.toArray).contains t = true := by simpa using ht
      simp only [Bool.or_eq_true, decide_eq_true_eq, hik, false_or, Bool.and_eq_true, hct, Bool.not_true, Bool.false_eq_true] at h1
      obtain ⟨e, he, hbe⟩ := Array.any_eq_true'.1 h1.2
      simp only [Bool.and_eq_true, beq_iff_eq] at hbe
      have h2 := hall2 e he hbe.1
      rw [hbe.2] at h2
      rw [h2]
      have h3 := Array.all_eq_true_iff_forall_mem.1 hO.back e he
      simp only [hbe.1, Bool.not_true, Bool.false_or, decide_eq_true_eq, hbe.2] at h3
      simp [h3]
  have step : ∀ v i, i < n → ∀ o, l.toArray[i]? = some o → StepC P l.toArray Cs Ws St v ((K[i]?).getD none) i (cnt Cs i) o (FR (fun j => decide (j < i)) v) := fun v i hi o ho => by
    have := wpC_at K (l.take n) 0 a0 (vf v) (h v) (fun k _ => by rw [Nat.zero_add]; rfl) i o (by rw [List.getElem?_take_of_lt hi]; simpa using ho)
    rwa [Nat.zero_add] at this
  have hseq' : ∀ listed : Array Bool, listed.size = l.toArray.size → (∀ j, j < n → listed.getD j false = true) → (∀ t, n ≤ t → t < l.toArray.size → listed.getD t true = false) → Region.seqB .any l.toArray (l.toArray.size - n) n listed = true := fun listed hsz h1 h2 => by
    have e : listed = (List.replicate n true ++ List.replicate (l.length - n) false).toArray := by
      apply Array.ext
      · rw [hsz]; simp; omega
      · intro i hi1 hi2
        by_cases hin : i < n
        · have := h1 i hin
          simp [hi1] at this
          rw [this]; simp [List.getElem_append, hin]
        · have := h2 i (by omega) (by rw [← hsz]; exact hi1)
          simp [hi1] at this
          rw [this]; simp [List.getElem_append, hin]
    rw [e]; simpa using hseq
  have main : ∀ (f : Nat) (listed : Array Bool) (v : Nat → Value) (w : World) (s : Nat), HeadInv .any l.toArray n listed → unl (fun j => listed.getD j false) n = f → s ≤ cnt Cs n →
      (∀ i, i < n → Cs.contains i = true → (listed.getD i false = true ↔ cnt Cs i < s)) →
      St s v w → wpAny P .any l.toArray Q (f + (l.toArray.size - n)) listed (FR (fun j => listed.getD j false) v) w := by
    intro f
    induction f with
    | zero =>
      intro listed v w s inv hu hsn hst hK
      have hL := unl_zero hu
      have hend := wpC_end K (l.take n) 0 a0 (vf v) (h v) (fun k _ => by rw [Nat.zero_add]; rfl)
      have es : s = cnt Cs n := by
        rcases Nat.lt_or_ge s (cnt Cs n) with h1 | h1
        · obtain ⟨i, hi, hci, hcs⟩ := cnt_hit h1
          have := (hst i hi hci).1 (hL i hi)
          omega
        · omega
      rw [Nat.zero_add, htl, ← es] at hend
      have e : FR (fun j => listed.getD j false) v = putL (fun _ => true) (vf v) (l.take n) 0 a0 := putL_congr _ _ _ (fun k hk => by
        have hkn : k < n := by simp at hk; omega
        rw [Nat.zero_add]; exact ⟨hL k hkn, fun _ => rfl⟩)
      rw [e, Nat.zero_add]
      have hdl : (l.drop n).length = l.toArray.size - n := by simp
      have h1 := hend w hK
      have := wpAny_of_seq (md := .any) (Q' := Q) (l.drop n) n listed (putL (fun _ => true) (vf v) (l.take n) 0 a0) w (fun j => by simp [List.getElem?_drop]) (by rw [hdl]; exact hseq' listed inv.size hL inv.tail) h1
      rwa [hdl] at this
    | succ f ih =>
      intro listed v w s inv hu hsn hst hK
      have hex : ∃ i, i < n ∧ listed.getD i false = false ∧ (fun _ : Nat => true) i = true := by
        refine Classical.byContradiction fun hno => ?_
        have h0 : unl (fun j => listed.getD j false) n = 0 := by
          unfold unl
          rw [List.length_eq_zero_iff, List.filter_eq_nil_iff]
          intro x hx
          have hxn := List.mem_range.1 hx
          cases hs : listed.getD x false
          · exact absurd ⟨x, hxn, hs, rfl⟩ hno
          · show ¬ (!(listed.getD x false)) = true
            rw [hs]; decide
        omega
      have inb : ∀ i, i < n → i < listed.size := fun i hi => by rw [inv.size]; omega
      have readyOf : ∀ i, i < n → listed.getD i false = false → (∀ j, j < i → listed.getD j false = true) → i ∈ Region.ready .any l.toArray listed := fun i hi h1 h2 => by
        have hlt : i < l.toArray.size := by omega
        refine mem_ready.2 ⟨getD_in (inb i hi) h1, l.toArray[i], Array.getElem?_eq_getElem hlt, fun e he hb => ?_⟩
        have hO := one i hi _ (Array.getElem?_eq_getElem hlt)
        have h3 := Array.all_eq_true_iff_forall_mem.1 hO.back e he
        simp only [hb, Bool.not_true, Bool.false_or, decide_eq_true_eq] at h3
        exact h2 e.on h3
      obtain ⟨i0, hi0, hi0f, _, hi0l⟩ := least_unl n hex
      rw [show f + 1 + (l.toArray.size - n) = (f + (l.toArray.size - n)) + 1 by omega]
      refine ⟨fun h0 => ?_, fun j hr => ?_⟩
      · have := readyOf i0 hi0 hi0f (fun j hj => hi0l j hj rfl)
        rw [h0] at this; cases this
      have hj : j < n := by
        rcases Nat.lt_or_ge j n with hlt | hge
        · exact hlt
        · exact absurd hr (tail_waitsF hs hc hn inv _ i0 rfl hi0 (by simp) (getD_in (inb i0 hi0) hi0f) j hge)
      obtain ⟨hjun, o, ho, hall2⟩ := mem_ready.1 hr
      have hjf : listed.getD j false = false := getD_both hjun
      have hstp := step v j hj o ho
      have hsee := sees listed v j o hj ho hr
      have hex1 := exec_same (hselS j o · · ho) hsee
      have hw1 := wanted_same hsee
      have inv' := inv.set hr hj
      have hu' : unl (fun k => (listed.setIfInBounds j true).getD k false) n = f := by
        have := unl_set (S := fun k => listed.getD k false) (S' := fun k => (listed.setIfInBounds j true).getD k false) hj hjf (by have := inb j hj; simp [this]) (fun i hi => getD_set_ne false (fun e => hi e.symm))
        omega
      have hfr := fun (u : Value) (h4 : free j = false → vf v j = u) => more (fun k => listed.getD k false) (fun k => (listed.setIfInBounds j true).getD k false) v j o u hj ho hjf (by have := inb j hj; simp [this]) (fun i hi => getD_set_ne false (fun e => hi e.symm)) h4
      have hS'j : (listed.setIfInBounds j true).getD j false = true := by have := inb j hj; simp [this]
      have hS'k : ∀ k, k ≠ j → (listed.setIfInBounds j true).getD k false = listed.getD k false := fun k hk => getD_set_ne false (fun e => hk e.symm)
      unfold Go.wpOp
      simp only [ho]
      by_cases hjc : Cs.contains j = true
      ·
        have hcj : cnt Cs j = s := by
          have h1 : ¬ cnt Cs j < s := fun h => by rw [(hst j hj hjc).2 h] at hjf; cases hjf
          rcases Nat.lt_or_ge s (cnt Cs j) with h2 | h2
          · exfalso
            obtain ⟨i, hi, hci, hcs⟩ := cnt_hit h2
            have h3 := List.all_eq_true.1 (List.all_eq_true.1 hC j (by simpa using hjc)) i (by simpa using hci)
            simp only [Bool.or_eq_true, decide_eq_true_eq] at h3
            rcases h3 with h3 | h3
            · omega
            · have h4 := rch_spec inv _ j i h3 (.inr hr)
              have := (hst i (by omega) hci).1 h4
              omega
          · omega
        have hst' : ∀ i, i < n → Cs.contains i = true → ((listed.setIfInBounds j true).getD i false = true ↔ cnt Cs i < s + 1) := fun i hi hci => by
          by_cases hij : i = j
          · subst hij
            rw [hS'j]; simp; omega
          · rw [hS'k i hij, hst i hi hci]
            rcases Nat.lt_or_ge i j with h1 | h1
            · have := cnt_lt hci h1
              omega
            · have := cnt_lt hjc (show j < i by omega)
              omega
        have hsn' : s + 1 ≤ cnt Cs n := by
          have := cnt_lt hjc hj
          omega
        unfold StepC at hstp
        rw [if_pos hjc, hcj] at hstp
        obtain ⟨hwt, hrun⟩ := hstp
        have next : ∀ (u : Value) (w' : World), (match (K[j]?).getD none with
            | some c => u = c ∧ St (s + 1) v w'
            | none => St (s + 1) (upd v j u) w') → wpAny P .any l.toArray Q (f + (l.toArray.size - n)) (listed.setIfInBounds j true) ((FR (fun k => listed.getD k false) v).put o.dst u) w' := fun u w' hR => by
          cases hc0 : (K[j]?).getD none with
          | none =>
            rw [hc0] at hR
            have hfj : free j = true := by simp only [free, hc0, Option.isNone_none]
            rw [hfr u (fun h => by rw [hfj] at h; cases h), hfj]
            simp only [if_true]
            exact ih _ (upd v j u) w' (s + 1) inv' hu' hsn' hst' hR
          | some c =>
            rw [hc0] at hR
            obtain ⟨rfl, hR⟩ := hR
            have hfj : free j = false := by simp only [free, hc0, Option.isNone_some]
            have hvc : vf v j = u := by show ((K[j]?).getD none).getD _ = u; rw [hc0]; rfl
            rw [hfr u (fun _ => hvc), hfj]
            simp only [Bool.false_eq_true, if_false]
            exact ih _ v w' (s + 1) inv' hu' hsn' hst' hR
        rw [hw1, hwt]
        simp only [if_true]
        refine .inl ?_
        unfold Oper.wp
        rw [hex1]
        have h1 := hrun w hK
        generalize (execOp (FR (fun j_1 => decide (j_1 < j)) v).eval o).run P w = r at *
        cases r with
        | ok m w' =>
          cases m <;> simp only [BringsS] at h1 <;> simp only [Oper.upon]
          case value u => exact next u w' h1
          case skip => exact next undef w' h1
          case enter f' args => exact h1.mono fun e w'' ⟨u, he, hR⟩ => by subst he; exact next u w'' hR
        | halt x w' => simp only [BringsS] at h1
      ·
        have hjc' : Cs.contains j = false := by simpa using hjc
        have hst' : ∀ i, i < n → Cs.contains i = true → ((listed.setIfInBounds j true).getD i false = true ↔ cnt Cs i < s) := fun i hi hci => by
          have hij : i ≠ j := fun e => by subst e; rw [hjc'] at hci; cases hci
          rw [hS'k i hij]; exact hst i hi hci
        unfold StepC at hstp
        rw [if_neg hjc] at hstp
        cases hc0 : (K[j]?).getD none with
        | none => rw [hc0] at hstp; exact hstp.elim
        | some c =>
          rw [hc0] at hstp
          simp only at hstp
          have hfj : free j = false := by simp only [free, hc0, Option.isNone_some]
          have hvc : vf v j = c := by show ((K[j]?).getD none).getD _ = c; rw [hc0]; rfl
          have next : wpAny P .any l.toArray Q (f + (l.toArray.size - n)) (listed.setIfInBounds j true) ((FR (fun k => listed.getD k false) v).put o.dst c) w := by
            rw [hfr c (fun _ => hvc), hfj]
            simp only [Bool.false_eq_true, if_false]
            exact ih _ v w s inv' hu' hsn hst' hK
          rcases hstp with ⟨hwt, hrun⟩ | ⟨hwt, hcu⟩
          · rw [hw1, hwt]
            simp only [if_true]
            refine .inl ?_
            unfold Oper.wp
            rw [hex1]
            have h1 := hrun s w (fun k hk => by
              have h3 := List.all_eq_true.1 hL (j, k) hk
              simp only [Bool.and_eq_true, decide_eq_true_eq] at h3
              obtain ⟨⟨h4, h5⟩, h6⟩ := h3
              refine Nat.le_of_not_lt fun hlt => ?_
              have h7 := rch_spec inv _ k j h6 (.inl ((hst k h5 h4).2 hlt))
              rw [h7] at hjf; cases hjf) hK
            generalize (execOp (FR (fun j_1 => decide (j_1 < j)) v).eval o).run P w = r at *
            cases r with
            | ok m w' =>
              cases m <;> simp only [Still] at h1 <;> simp only [Oper.upon]
              case value u => obtain ⟨rfl, rfl⟩ := h1; exact next
              case skip => obtain ⟨rfl, rfl⟩ := h1; exact next
            | halt x w' => simp only [Still] at h1
          · rw [hw1, hwt]
            simp only [Bool.false_eq_true, if_false]
            rw [← hcu]
            exact next
  have inv0 : HeadInv .any l.toArray n (Array.replicate l.toArray.size false) :=
    ⟨by simp, fun j oj _ hl => (by rw [getD_replicate_false] at hl; cases hl), fun t _ ht => getD_in (by simpa using ht) (getD_replicate_false _ _)⟩
  have hu0 : unl (fun j => (Array.replicate l.toArray.size false).getD j false) n = n := by
    unfold unl
    have : (List.range n).filter (fun i => !(Array.replicate l.toArray.size false).getD i false) = List.range n := List.filter_eq_self.2 fun x _ => by rw [getD_replicate_false]; rfl
    rw [this]; simp
  refine wp_region_any hm ?_
  have e0 : FR (fun j => (Array.replicate l.toArray.size false).getD j false) (fun _ => undef) = a0 := putL_none _ _ _ (fun k _ => getD_replicate_false _ _)
  have := main n _ (fun _ => undef) _ 0 inv0 hu0 (Nat.zero_le _) (fun i hi hci => by rw [getD_replicate_false]; simp) (hW _)
  rw [e0, show n + (l.toArray.size - n) = l.toArray.size by omega] at this
  exact this
theorem region_chain {id : Nat} {w : World} (n : Nat) (Cs : List Nat) (Ws : List (Nat × Nat)) (St : Nat → (Nat → Value) → World → Prop) (K : List (Option Value))
    (hW : ∀ v, St 0 v { w with drawn := w.drawn + 1 }) (hm : P.follows .mixedOrders = true) (hB : typedB l n [] [] [] = true) (hC : chB .any l.toArray Cs = true) (hL : lmB .any l.toArray n Cs Ws = true)
    (hQ : ∀ c (a : Act) d u w, Q (.panic c) (a.put d u) w → Q (.panic c) a w)
    (h : ∀ OPS : Array Oper, OPS = l.toArray → ∀ v : Nat → Value, wpC P OPS Cs Ws St v (fun s a' => ∀ w', St s v w' → wpList P OPS Q (l.drop n) a' w') 0 K (l.take n) 0 a0) :
    (Code.region id l.toArray true).wp P Q a0 w := region_chain0 n Cs Ws St K hW hm hB hC hL hQ (h _ rfl)
end
end
end Go.Rg
end
section
namespace Go.Proofs.Ytaogpifcfmjcbaa
open Go.RowKit
set_option linter.unusedSimpArgs false
set_option linter.unusedVariables false
def Go1 (p : Nat) (w w' : World) : Prop := w.grownBy w' (some p)
theorem Go1.of {p : Nat} {w w' : World} (h : Gr w w') : Go1 p w w' := h.only _
theorem Go1.refl (p : Nat) (w : World) : Go1 p w w := .of (Gr.refl w)
theorem Go1.trans {p : Nat} {a b c : World} (h : Go1 p a b) (k : Go1 p b c) : Go1 p a c :=
  ⟨k.os.trans h.os, k.tape.trans h.tape, k.output.trans h.output, Nat.le_trans h.size k.size, fun i hi hne => (k.block i (Nat.lt_of_lt_of_le hi h.size) hne).trans (h.block i hi hne)⟩
theorem Go1.set (p k : Nat) (w : World) (u : Value) : Go1 p w (w.setCell ⟨p, k, none⟩ u) :=
  ⟨rfl, rfl, rfl, by simp, fun i _ hi => Below.heap_setCell _ _ _ i (fun e => hi (by rw [e]))⟩
theorem Go1.up {p : Nat} {a w w' : World} (h : Gr a w) (k : Go1 p w w') (hp : a.heap.size ≤ p) : Gr a w' := h.grown k (fun g hg => by cases hg; exact hp)
theorem Go1.cell {p : Nat} {w w' : World} {b i : Nat} (h : Go1 p w w') (hb : b < w.heap.size) (hne : b ≠ p) : w'.cell? ⟨b, i, none⟩ = w.cell? ⟨b, i, none⟩ :=
  World.cell?_of_block (h.block b hb (fun e => hne (by cases e; rfl)))
theorem Go1.keep {p : Nat} {w w' : World} {b i : Nat} {u : Value} (h : Go1 p w w') (hc : w.cell? ⟨b, i, none⟩ = some u) (hne : b ≠ p) : w'.cell? ⟨b, i, none⟩ = some u := by
  rw [h.cell (lt_of_cell hc) hne]; exact hc
theorem at_go {α : Type} {f : α → List Value} {n p : Nat} {w w' : World} {oa : Option Addr} {l : List α} (h : AtF f n w oa l) (hg : Go1 p w w') (hne : ∀ b off q, oa = some ⟨b, off, q⟩ → b ≠ p) : AtF f n w' oa l := by
  rcases h with h | ⟨b, off, e1, hb, hr⟩
  · exact .inl h
  · exact .inr ⟨b, off, e1, Nat.lt_of_lt_of_le hb hg.size, fun i hi j u hu => hg.keep (hr i hi j u hu) (hne b off none e1)⟩
def tF (t : Lx.Tok) : List Value := [.int .i64 (t.tk.kind : Int), .string (txt t.tk.text), .int .i64 (t.tk.num : Int), .int .i64 (t.pos : Int)]
theorem tE : Enc tF 4 := ⟨fun _ => rfl, fun x u hu => by simp [tF] at hu; rcases hu with rfl | rfl | rfl | rfl <;> rfl, by omega⟩
abbrev TAt := AtF tF 4
theorem t_get {w : World} {oa : Option Addr} {l : List Lx.Tok} (h : TAt w oa l) (k : Nat) (hk : k < l.length) : ∃ b off, oa = some ⟨b, off, none⟩ ∧ b < w.heap.size ∧
    w.cell? ⟨b, off + k * 4, none⟩ = some (.int .i64 (l[k].tk.kind : Int)) ∧ w.cell? ⟨b, off + k * 4 + 1, none⟩ = some (.string (txt l[k].tk.text)) ∧ w.cell? ⟨b, off + k * 4 + 2, none⟩ = some (.int .i64 (l[k].tk.num : Int)) ∧ w.cell? ⟨b, off + k * 4 + 3, none⟩ = some (.int .i64 (l[k].pos : Int)) := by
  obtain ⟨b, off, e, hb, hc⟩ := h.get k hk
  refine ⟨b, off, e, hb, ?_, hc 1 _ rfl, hc 2 _ rfl, hc 3 _ rfl⟩
  have := hc 0 _ rfl
  simpa using this
structure TokOk (l : List Lx.Tok) : Prop where
  last : ∃ r t, l = r ++ [t] ∧ t.tk.kind = 5
  text : ∀ t ∈ l, t.tk.text.length ≤ 4096
theorem TokOk.pos {l : List Lx.Tok} (h : TokOk l) : 0 < l.length := by
  obtain ⟨r, t, rfl, _⟩ := h.last
  simp
theorem TokOk.tail {t : Lx.Tok} {r : List Lx.Tok} (h : TokOk (t :: r)) (hk : t.tk.kind ≠ 5) : TokOk r := by
  obtain ⟨q, u, e, hu⟩ := h.last
  cases q with
  | nil => simp at e; exact absurd (by rw [e.1]; exact hu) hk
  | cons a q => simp at e; exact ⟨⟨q, u, e.2, hu⟩, fun x hx => h.text x (by simp [hx])⟩
structure PR (p : Nat) (w : World) (l : List Lx.Tok) (d e a : Int) : Prop where
  ex : ∃ oa c, w.heap[p]? = some (.cells #[.slice oa l.length c, .int .i64 d, .int .i64 e, .int .i64 a] 60 (0, 0)) ∧ l.length ≤ c ∧ TAt w oa l ∧ ∀ b off q, oa = some ⟨b, off, q⟩ → b < p
  tok : TokOk l
  gl : ∃ m, w.cell? ⟨0, 0, none⟩ = some (.int .i64 m)
  p0 : 0 < p
theorem PR.lt {p : Nat} {w : World} {l : List Lx.Tok} {d e a : Int} (h : PR p w l d e a) : p < w.heap.size := by
  obtain ⟨oa, c, hh, _⟩ := h.ex
  exact (Array.getElem?_eq_some_iff.1 hh).1
theorem PR.keep {p : Nat} {w w' : World} {l : List Lx.Tok} {d e a : Int} (h : PR p w l d e a) (hg : Gr w w') : PR p w' l d e a := by
  obtain ⟨oa, c, hh, hc, hat, hne⟩ := h.ex
  obtain ⟨m, hm⟩ := h.gl
  exact ⟨⟨oa, c, by rw [hg.block p h.lt]; exact hh, hc, hat.keep hg, hne⟩, h.tok, ⟨m, hg.keep hm⟩, h.p0⟩
def PS (p : Nat) (w : World) : Ps → Prop
  | .ok l d => d ≤ 24 ∧ PR p w l d 0 0
  | .bad e a => e ≠ 0 ∧ ∃ l d, PR p w l d e (a : Int)
theorem PS.lt {p : Nat} {w : World} {s : Ps} (h : PS p w s) : p < w.heap.size := by
  cases s with
  | ok l d => exact h.2.lt
  | bad e a => obtain ⟨_, l, d, h⟩ := h; exact h.lt
theorem PS.keep {p : Nat} {w w' : World} {s : Ps} (h : PS p w s) (hg : Gr w w') : PS p w' s := by
  cases s with
  | ok l d => exact ⟨h.1, h.2.keep hg⟩
  | bad e a => obtain ⟨he, l, d, h⟩ := h; exact ⟨he, l, d, h.keep hg⟩
theorem at_low {α : Type} {f : α → List Value} {n p : Nat} {w w' : World} {oa : Option Addr} {l : List α} (h : AtF f n w oa l) (hz : w.heap.size ≤ w'.heap.size) (hb : ∀ i, i ≤ p → i < w.heap.size → w'.heap[i]? = w.heap[i]?) (hne : ∀ b off q, oa = some ⟨b, off, q⟩ → b < p) : AtF f n w' oa l := by
  rcases h with h | ⟨b, off, e1, hl, hr⟩
  · exact .inl h
  · have := hne b off none e1
    exact .inr ⟨b, off, e1, Nat.lt_of_lt_of_le hl hz, fun i hi j u hu => by rw [World.cell?_of_block (w := w) (hb b (by omega) hl)]; exact hr i hi j u hu⟩
theorem PR.low {p : Nat} {w w' : World} {l : List Lx.Tok} {d e a : Int} (h : PR p w l d e a) (hz : w.heap.size ≤ w'.heap.size) (hb : ∀ i, i ≤ p → i < w.heap.size → w'.heap[i]? = w.heap[i]?) : PR p w' l d e a := by
  obtain ⟨oa, c, hh, hc, hat, hne⟩ := h.ex
  obtain ⟨m, hm⟩ := h.gl
  have hp0 := h.p0
  exact ⟨⟨oa, c, by rw [hb p (Nat.le_refl _) h.lt]; exact hh, hc, at_low hat hz hb hne, hne⟩, h.tok, ⟨m, by rw [World.cell?_of_block (w := w) (hb 0 (by omega) (by have := h.lt; omega))]; exact hm⟩, h.p0⟩
theorem PS.low {p : Nat} {w w' : World} {s : Ps} (h : PS p w s) (hz : w.heap.size ≤ w'.heap.size) (hb : ∀ i, i ≤ p → i < w.heap.size → w'.heap[i]? = w.heap[i]?) : PS p w' s := by
  cases s with
  | ok l d => exact ⟨h.1, h.2.low hz hb⟩
  | bad e a => obtain ⟨he, l, d, h⟩ := h; exact ⟨he, l, d, h.low hz hb⟩
theorem PS.go {p b : Nat} {w w' : World} {s : Ps} (h : PS p w s) (hg : Go1 b w w') (hpb : p < b) : PS p w' s := h.low hg.size (fun i hi hl => hg.block i hl (fun e => by cases e; omega))
theorem Go1.get {p b : Nat} {w w' : World} (h : Go1 p w w') (hb : b < w.heap.size) (hne : b ≠ p) : w'.heap[b]? = w.heap[b]? := h.block b hb (fun e => hne (by cases e; rfl))
theorem cells_set {w : World} {p : Nat} {l : List Value} {T : TypeId} (k : Nat) (u : Value) (h : w.heap[p]? = some (.cells l.toArray T (0, 0))) : (w.setCell ⟨p, k, none⟩ u).heap[p]? = some (.cells (l.set k u).toArray T (0, 0)) := by
  simp [World.setCell, Array.getElem?_modify, h]
def Pm (p : Nat) (w : World) (u : Value) (s : Ps) (e : Ending) (w' : World) : Prop := e = .returned u ∧ PS p w' s ∧ Go1 p w w'
theorem Pm.mk {p : Nat} {w : World} {u : Value} {s : Ps} {w' : World} (h1 : PS p w' s) (h2 : Go1 p w w') : Pm p w u s (.returned u) w' := ⟨rfl, h1, h2⟩
structure XR where
  h : Hd
  oa : Option Addr
  n : Nat
  cap : Nat
def XR.val (r : XR) : Value := .agg #[.int .i64 r.h.op, .int .i64 r.h.v.t, .int .i64 r.h.v.n, .string r.h.v.s, .bool r.h.v.b, .string r.h.tab, .string r.h.name, .int .i64 r.h.t, .int .i64 r.h.c, .bool r.h.nt, .bool r.h.st, .slice r.oa r.n r.cap]
def xF (r : XR) : List Value := [.int .i64 r.h.op, .int .i64 r.h.v.t, .int .i64 r.h.v.n, .string r.h.v.s, .bool r.h.v.b, .string r.h.tab, .string r.h.name, .int .i64 r.h.t, .int .i64 r.h.c, .bool r.h.nt, .bool r.h.st, .slice r.oa r.n r.cap]
theorem xE : Enc xF 12 := ⟨fun _ => rfl, fun x u hu => by simp [xF] at hu; rcases hu with rfl | rfl | rfl | rfl | rfl | rfl | rfl | rfl | rfl | rfl | rfl | rfl <;> rfl, by omega⟩
def XRow (S : Nat → Prop) (w : World) (oa : Option Addr) (rs : List XR) : Prop := rs = [] ∨ ∃ b off, oa = some ⟨b, off, none⟩ ∧ b < w.heap.size ∧ S b ∧ (∀ j, w.frozen? ⟨b, j, none⟩ = false) ∧ RowF xF 12 w b off rs
theorem XRow.of {S : Nat → Prop} {w w' : World} {oa : Option Addr} {rs : List XR} (h : XRow S w oa rs) (hz : w.heap.size ≤ w'.heap.size) (hb : ∀ b, S b → b < w.heap.size → w'.heap[b]? = w.heap[b]?) : XRow S w' oa rs := by
  rcases h with h | ⟨b, off, e, hl, hs, hf, hr⟩
  · exact .inl h
  · exact .inr ⟨b, off, e, Nat.lt_of_lt_of_le hl hz, hs, fun j => by unfold World.frozen?; rw [hb b hs hl]; exact hf j, fun i hi j u hu => by rw [World.cell?_of_block (w := w) (hb b hs hl)]; exact hr i hi j u hu⟩
theorem XRow.mono {S S' : Nat → Prop} {w : World} {oa : Option Addr} {rs : List XR} (h : XRow S w oa rs) (hS : ∀ b, b < w.heap.size → S b → S' b) : XRow S' w oa rs := by
  rcases h with h | ⟨b, off, e, hl, hs, hf, hr⟩
  · exact .inl h
  · exact .inr ⟨b, off, e, hl, hS b hl hs, hf, hr⟩
theorem XRow.at {S : Nat → Prop} {w : World} {oa : Option Addr} {rs : List XR} (h : XRow S w oa rs) : AtF xF 12 w oa rs := by
  rcases h with h | ⟨b, off, e, hl, hs, hf, hr⟩
  · exact .inl h
  · exact .inr ⟨b, off, e, hl, hr⟩
def Fit (n c : Nat) : Prop := n ≤ c ∧ n ≤ 2000000
theorem fit_le (n : Nat) (h : n ≤ 2000000) : Fit n n := ⟨Nat.le_refl n, h⟩
mutual
def Ex.At (S : Nat → Prop) (w : World) : Ex → XR → Prop
  | .mk h ks, r => r.h = h ∧ r.n = ks.length ∧ Fit r.n r.cap ∧ ∃ rs, rs.length = ks.length ∧ XRow S w r.oa rs ∧ Exs.At S w ks rs
def Exs.At (S : Nat → Prop) (w : World) : List Ex → List XR → Prop
  | [], rs => rs = []
  | x :: xs, rs => ∃ r rr, rs = r :: rr ∧ Ex.At S w x r ∧ Exs.At S w xs rr
end
mutual
theorem Ex.At.of {S : Nat → Prop} {w w' : World} (hz : w.heap.size ≤ w'.heap.size) (hb : ∀ b, S b → b < w.heap.size → w'.heap[b]? = w.heap[b]?) : ∀ {x : Ex} {r : XR}, Ex.At S w x r → Ex.At S w' x r
  | .mk h ks, r, hx => by
    unfold Ex.At at hx ⊢
    obtain ⟨h1, h2, h3, rs, h4, h5, h6⟩ := hx
    exact ⟨h1, h2, h3, rs, h4, h5.of hz hb, Exs.At.of hz hb h6⟩
theorem Exs.At.of {S : Nat → Prop} {w w' : World} (hz : w.heap.size ≤ w'.heap.size) (hb : ∀ b, S b → b < w.heap.size → w'.heap[b]? = w.heap[b]?) : ∀ {xs : List Ex} {rs : List XR}, Exs.At S w xs rs → Exs.At S w' xs rs
  | [], rs, hx => by unfold Exs.At at hx ⊢; exact hx
  | x :: xs, rs, hx => by
    unfold Exs.At at hx ⊢
    obtain ⟨r, rr, h1, h2, h3⟩ := hx
    exact ⟨r, rr, h1, Ex.At.of hz hb h2, Exs.At.of hz hb h3⟩
end
mutual
theorem Ex.At.mono {S S' : Nat → Prop} {w : World} (hS : ∀ b, b < w.heap.size → S b → S' b) : ∀ {x : Ex} {r : XR}, Ex.At S w x r → Ex.At S' w x r
  | .mk h ks, r, hx => by
    unfold Ex.At at hx ⊢
    obtain ⟨h1, h2, h3, rs, h4, h5, h6⟩ := hx
    exact ⟨h1, h2, h3, rs, h4, h5.mono hS, Exs.At.mono hS h6⟩
theorem Exs.At.mono {S S' : Nat → Prop} {w : World} (hS : ∀ b, b < w.heap.size → S b → S' b) : ∀ {xs : List Ex} {rs : List XR}, Exs.At S w xs rs → Exs.At S' w xs rs
  | [], rs, hx => by unfold Exs.At at hx ⊢; exact hx
  | x :: xs, rs, hx => by
    unfold Exs.At at hx ⊢
    obtain ⟨r, rr, h1, h2, h3⟩ := hx
    exact ⟨r, rr, h1, Ex.At.mono hS h2, Exs.At.mono hS h3⟩
end
theorem Exs.At.len {S : Nat → Prop} {w : World} : ∀ {xs : List Ex} {rs : List XR}, Exs.At S w xs rs → rs.length = xs.length
  | [], rs, h => by unfold Exs.At at h; rw [h]; rfl
  | x :: xs, rs, h => by
    unfold Exs.At at h
    obtain ⟨r, rr, rfl, _, h3⟩ := h
    simp [h3.len]
theorem Exs.At.snoc {S : Nat → Prop} {w : World} {x : Ex} {r : XR} (hx : Ex.At S w x r) : ∀ {xs : List Ex} {rs : List XR}, Exs.At S w xs rs → Exs.At S w (xs ++ [x]) (rs ++ [r])
  | [], rs, h => by unfold Exs.At at h; subst h; unfold Exs.At; exact ⟨r, [], rfl, hx, by unfold Exs.At; rfl⟩
  | y :: xs, rs, h => by
    unfold Exs.At at h
    obtain ⟨q, rr, rfl, h2, h3⟩ := h
    show Exs.At S w (y :: (xs ++ [x])) (q :: (rr ++ [r]))
    unfold Exs.At
    exact ⟨q, rr ++ [r], rfl, h2, h3.snoc hx⟩
theorem Exs.At.nil {S : Nat → Prop} {w : World} : Exs.At S w [] [] := by unfold Exs.At; rfl
theorem Exs.At.cons {S : Nat → Prop} {w : World} {x : Ex} {r : XR} {xs : List Ex} {rs : List XR} (hx : Ex.At S w x r) (h : Exs.At S w xs rs) : Exs.At S w (x :: xs) (r :: rs) := by unfold Exs.At; exact ⟨r, rs, rfl, hx, h⟩
theorem Exs.At.get {S : Nat → Prop} {w : World} : ∀ {xs : List Ex} {rs : List XR}, Exs.At S w xs rs → ∀ (k : Nat) (h1 : k < xs.length) (h2 : k < rs.length), Ex.At S w xs[k] rs[k]
  | [], rs, h, k, h1, _ => by simp at h1
  | x :: xs, rs, h, k, h1, h2 => by
    unfold Exs.At at h
    obtain ⟨r, rr, rfl, h3, h4⟩ := h
    cases k with
    | zero => exact h3
    | succ k => exact h4.get k (by simpa using h1) (by simpa using h2)
def XsAt (S : Nat → Prop) (w : World) (xs : List Ex) (oa : Option Addr) (n cap : Nat) : Prop := n = xs.length ∧ Fit n cap ∧ ∃ rs, rs.length = xs.length ∧ XRow S w oa rs ∧ Exs.At S w xs rs
theorem XsAt.of {S : Nat → Prop} {w w' : World} {xs : List Ex} {oa : Option Addr} {n cap : Nat} (h : XsAt S w xs oa n cap) (hz : w.heap.size ≤ w'.heap.size) (hb : ∀ b, S b → b < w.heap.size → w'.heap[b]? = w.heap[b]?) : XsAt S w' xs oa n cap := by
  obtain ⟨h1, h2, rs, h3, h4, h5⟩ := h
  exact ⟨h1, h2, rs, h3, h4.of hz hb, h5.of hz hb⟩
theorem XsAt.mono {S S' : Nat → Prop} {w : World} {xs : List Ex} {oa : Option Addr} {n cap : Nat} (h : XsAt S w xs oa n cap) (hS : ∀ b, b < w.heap.size → S b → S' b) : XsAt S' w xs oa n cap := by
  obtain ⟨h1, h2, rs, h3, h4, h5⟩ := h
  exact ⟨h1, h2, rs, h3, h4.mono hS, h5.mono hS⟩
theorem Ex.At.list {S : Nat → Prop} {w : World} {h : Hd} {ks : List Ex} {r : XR} : Ex.At S w (.mk h ks) r ↔ r.h = h ∧ XsAt S w ks r.oa r.n r.cap := by
  unfold Ex.At XsAt
  exact Iff.rfl
abbrev Nw (w : World) : Nat → Prop := fun b => w.heap.size ≤ b
def Rx (p : Nat) (w : World) (q : Ex × Ps) (u : Value) (w' : World) : Prop := ∃ r x, u = r.val ∧ Ex.At (Nw w) w' x r ∧ PS p w' q.2 ∧ Go1 p w w' ∧ (q.2.good = true → x = q.1)
def Px (p : Nat) (w : World) (q : Ex × Ps) (e : Ending) (w' : World) : Prop := ∃ u, e = .returned u ∧ Rx p w q u w'
def Rxs (p : Nat) (w : World) (q : List Ex × Ps) (u : Value) (w' : World) : Prop := ∃ oa n cap xs, u = .slice oa n cap ∧ XsAt (Nw w) w' xs oa n cap ∧ PS p w' q.2 ∧ Go1 p w w' ∧ n ≤ 1000001 ∧ (oa = none → cap = 0) ∧ (q.2.good = true → xs = q.1)
def Pxs (p : Nat) (w : World) (q : List Ex × Ps) (e : Ending) (w' : World) : Prop := ∃ u, e = .returned u ∧ Rxs p w q u w'
def lenAt (p : Nat) (w : World) : Nat := match w.cell? ⟨p, 2, none⟩, w.cell? ⟨p, 0, none⟩ with
  | some (.int _ 0), some (.slice _ n _) => n
  | _, _ => 0
theorem lenAt_ps {p : Nat} {w : World} {s : Ps} (h : PS p w s) : lenAt p w = s.size := by
  match s, h with
  | .ok l d, h =>
    obtain ⟨oa, c, hh, _⟩ := h.2.ex
    unfold lenAt
    rw [Rg.blk_cells hh 2, Rg.blk_cells hh 0]
    rfl
  | .bad e a, h =>
    obtain ⟨he, l, d, h⟩ := h
    obtain ⟨oa, c, hh, _⟩ := h.ex
    unfold lenAt
    rw [Rg.blk_cells hh 2, Rg.blk_cells hh 0]
    simp only [List.getElem?_toArray, List.getElem?_cons_zero, List.getElem?_cons_succ]
    split
    · rename_i h1 h2
      simp at h1
      exact absurd h1.2 he
    · rfl
def Rd (f : Nat) (q : Pa Ex) (p N : Nat) : Prop := ∀ s w, PS p w s → s.size ≤ N → Calls Try.prog f #[.pointer (some ⟨p, 0, none⟩)] w (Px p w (q s))
def Rds (f : Nat) (q : Pa (List Ex)) (p N : Nat) : Prop := ∀ s w, PS p w s → s.size ≤ N → Calls Try.prog f #[.pointer (some ⟨p, 0, none⟩)] w (Pxs p w (q s))
theorem set12 {w : World} {b : Nat} {T : TypeId} {a0 a1 a2 a3 a4 a5 a6 a7 a8 a9 a10 a11 : Value} (h : w.heap[b]? = some (.cells #[a0, a1, a2, a3, a4, a5, a6, a7, a8, a9, a10, a11] T (0, 0))) (b0 b1 b2 b3 b4 b5 b6 b7 b8 b9 b10 b11 : Value) :
    ((((((((((((w.setCell ⟨b, 0, none⟩ b0).setCell ⟨b, 1, none⟩ b1).setCell ⟨b, 2, none⟩ b2).setCell ⟨b, 3, none⟩ b3).setCell ⟨b, 4, none⟩ b4).setCell ⟨b, 5, none⟩ b5).setCell ⟨b, 6, none⟩ b6).setCell ⟨b, 7, none⟩ b7).setCell ⟨b, 8, none⟩ b8).setCell ⟨b, 9, none⟩ b9).setCell ⟨b, 10, none⟩ b10).setCell ⟨b, 11, none⟩ b11).heap[b]? = some (.cells #[b0, b1, b2, b3, b4, b5, b6, b7, b8, b9, b10, b11] T (0, 0)) :=
  cells_set (l := [b0, b1, b2, b3, b4, b5, b6, b7, b8, b9, b10, a11]) 11 b11 (cells_set (l := [b0, b1, b2, b3, b4, b5, b6, b7, b8, b9, a10, a11]) 10 b10 (cells_set (l := [b0, b1, b2, b3, b4, b5, b6, b7, b8, a9, a10, a11]) 9 b9 (cells_set (l := [b0, b1, b2, b3, b4, b5, b6, b7, a8, a9, a10, a11]) 8 b8 (cells_set (l := [b0, b1, b2, b3, b4, b5, b6, a7, a8, a9, a10, a11]) 7 b7 (cells_set (l := [b0, b1, b2, b3, b4, b5, a6, a7, a8, a9, a10, a11]) 6 b6 (cells_set (l := [b0, b1, b2, b3, b4, a5, a6, a7, a8, a9, a10, a11]) 5 b5 (cells_set (l := [b0, b1, b2, b3, a4, a5, a6, a7, a8, a9, a10, a11]) 4 b4 (cells_set (l := [b0, b1, b2, a3, a4, a5, a6, a7, a8, a9, a10, a11]) 3 b3 (cells_set (l := [b0, b1, a2, a3, a4, a5, a6, a7, a8, a9, a10, a11]) 2 b2 (cells_set (l := [b0, a1, a2, a3, a4, a5, a6, a7, a8, a9, a10, a11]) 1 b1 (cells_set (l := [a0, a1, a2, a3, a4, a5, a6, a7, a8, a9, a10, a11]) 0 b0 h)))))))))))
theorem Go1.set12 (p : Nat) (w : World) (b0 b1 b2 b3 b4 b5 b6 b7 b8 b9 b10 b11 : Value) :
    Go1 p w ((((((((((((w.setCell ⟨p, 0, none⟩ b0).setCell ⟨p, 1, none⟩ b1).setCell ⟨p, 2, none⟩ b2).setCell ⟨p, 3, none⟩ b3).setCell ⟨p, 4, none⟩ b4).setCell ⟨p, 5, none⟩ b5).setCell ⟨p, 6, none⟩ b6).setCell ⟨p, 7, none⟩ b7).setCell ⟨p, 8, none⟩ b8).setCell ⟨p, 9, none⟩ b9).setCell ⟨p, 10, none⟩ b10).setCell ⟨p, 11, none⟩ b11) :=
  ((((((((((((Go1.set p 0 _ _).trans (Go1.set p 1 _ _)).trans (Go1.set p 2 _ _)).trans (Go1.set p 3 _ _)).trans (Go1.set p 4 _ _)).trans (Go1.set p 5 _ _)).trans (Go1.set p 6 _ _)).trans (Go1.set p 7 _ _)).trans (Go1.set p 8 _ _)).trans (Go1.set p 9 _ _)).trans (Go1.set p 10 _ _)).trans (Go1.set p 11 _ _))
abbrev XR.cells (r : XR) : Array Value := #[.int .i64 r.h.op, .int .i64 r.h.v.t, .int .i64 r.h.v.n, .string r.h.v.s, .bool r.h.v.b, .string r.h.tab, .string r.h.name, .int .i64 r.h.t, .int .i64 r.h.c, .bool r.h.nt, .bool r.h.st, .slice r.oa r.n r.cap]
theorem x_info : (Try.prog.info? 32).map (fun i => (i.zero, i.size, i.bytes)) = some (some (.agg #[.int .i64 0, .int .i64 0, .int .i64 0, .string ⟨#[]⟩, .bool false, .string ⟨#[]⟩, .string ⟨#[]⟩, .int .i64 0, .int .i64 0, .bool false, .bool false, .slice none 0 0]), 12, 128) := by kernel_rfl
end Go.Proofs.Ytaogpifcfmjcbaa
end
section
namespace Go.Proofs.Ytaogpifcfmjcbaa
open Go.RowKit
set_option linter.unusedVariables false
def SameV (u u' : Value) : Prop := u = u' ∨ ∃ oa n c c', u = .slice oa n c ∧ u' = .slice oa n c' ∧ n ≤ c'
theorem SameV.refl (u : Value) : SameV u u := .inl rfl
theorem SameV.trans {u v x : Value} (h : SameV u v) (k : SameV v x) : SameV u x := by
  rcases h with rfl | ⟨oa, n, c, c', rfl, rfl, h3⟩
  · exact k
  · rcases k with rfl | ⟨oa2, n2, c2, c2', h1, rfl, h4⟩
    · exact .inr ⟨_, _, _, _, rfl, rfl, h3⟩
    · cases h1; exact .inr ⟨_, _, _, _, rfl, rfl, h4⟩
structure Cl (S : Nat → Prop) (w w' : World) : Prop where
  os : w'.os = w.os
  tape : w'.tape = w.tape
  output : w'.output = w.output
  size : w.heap.size ≤ w'.heap.size
  cell : ∀ b k u, w.cell? ⟨b, k, none⟩ = some u → ∃ u', w'.cell? ⟨b, k, none⟩ = some u' ∧ SameV u u'
  free : ∀ b k, b < w.heap.size → w'.frozen? ⟨b, k, none⟩ = w.frozen? ⟨b, k, none⟩
  block : ∀ b, b < w.heap.size → ¬ S b → w'.heap[b]? = w.heap[b]?
theorem Cl.of {S : Nat → Prop} {w w' : World} (h : Gr w w') : Cl S w w' := ⟨h.os, h.tape, h.output, h.size, fun b k u hu => ⟨u, h.keep hu, .refl u⟩, fun b k hb => h.frees b k hb, fun b hb _ => h.block b hb⟩
theorem Cl.refl (S : Nat → Prop) (w : World) : Cl S w w := .of (Gr.refl w)
theorem Cl.trans {S : Nat → Prop} {a b c : World} (h : Cl S a b) (k : Cl S b c) : Cl S a c := by
  refine ⟨k.os.trans h.os, k.tape.trans h.tape, k.output.trans h.output, Nat.le_trans h.size k.size, fun i j u hu => ?_, fun i j hi => ?_, fun i hi hS => ?_⟩
  · obtain ⟨u1, h1, s1⟩ := h.cell i j u hu
    obtain ⟨u2, h2, s2⟩ := k.cell i j u1 h1
    exact ⟨u2, h2, s1.trans s2⟩
  · rw [k.free i j (Nat.lt_of_lt_of_le hi h.size), h.free i j hi]
  · rw [k.block i (Nat.lt_of_lt_of_le hi h.size) hS, h.block i hi hS]
theorem Cl.mono {S S' : Nat → Prop} {w w' : World} (h : Cl S w w') (hS : ∀ b, b < w.heap.size → S b → S' b) : Cl S' w w' := ⟨h.os, h.tape, h.output, h.size, h.cell, h.free, fun b hb hn => h.block b hb (fun hs => hn (hS b hb hs))⟩
theorem Cl.gr {S : Nat → Prop} {a w w' : World} (h : Gr a w) (k : Cl S w w') (hS : ∀ b, S b → a.heap.size ≤ b) : Gr a w' :=
  ⟨k.os.trans h.os, k.tape.trans h.tape, k.output.trans h.output, Nat.le_trans h.size k.size, fun i hi => (k.block i (Nat.lt_of_lt_of_le hi h.size) (fun hs => by have := hS i hs; omega)).trans (h.block i hi)⟩
theorem Cl.cellv {S : Nat → Prop} {w : World} {b k : Nat} {u u' : Value} (h : w.cell? ⟨b, k, none⟩ = some u) (hu : SameV u u') (hS : S b) : Cl S w (w.setCell ⟨b, k, none⟩ u') := by
  refine ⟨rfl, rfl, rfl, by simp, fun i j x hx => ?_, fun i j hi => World.frozen?_setCell _ _ _ _, fun i hi hn => Below.heap_setCell _ _ _ i (fun e => hn (by rw [e]; exact hS))⟩
  by_cases e : (⟨b, k, none⟩ : Addr) = ⟨i, j, none⟩
  · cases e
    rw [h] at hx
    cases hx
    exact ⟨_, World.cell?_setCell_same _ _ _ h, hu⟩
  · exact ⟨x, by rw [World.cell?_setCell_other _ _ _ _ e]; exact hx, .refl x⟩
theorem Cl.cellsv {S : Nat → Prop} {b : Nat} (hS : S b) : ∀ (vs : List Value) (o : Nat) (w : World), (∀ j u', vs[j]? = some u' → ∃ u, w.cell? ⟨b, o + j, none⟩ = some u ∧ SameV u u') → Cl S w (w.setCells b o vs)
  | [], o, w, h => .refl S w
  | v :: vs, o, w, h => by
    obtain ⟨u, hu, hs⟩ := h 0 v rfl
    have h1 := Cl.cellv (S := S) (by simpa using hu) hs hS
    refine h1.trans (Cl.cellsv hS vs (o + 1) _ (fun j u' hj => ?_))
    obtain ⟨x, hx, hs'⟩ := h (j + 1) u' (by simpa using hj)
    refine ⟨x, ?_, hs'⟩
    rw [World.cell?_setCell_other _ _ _ _ (by simp), show o + 1 + j = o + (j + 1) by omega]
    exact hx
theorem Cl.new {S : Nat → Prop} {w wr W : World} (h : Cl S w wr) (ho : W.os = wr.os) (ht : W.tape = wr.tape) (hp : W.output = wr.output) (hz : wr.heap.size ≤ W.heap.size) (hb : ∀ b, b < w.heap.size → W.heap[b]? = wr.heap[b]?) : Cl S w W := by
  refine ⟨ho.trans h.os, ht.trans h.tape, hp.trans h.output, Nat.le_trans h.size hz, fun b k u hu => ?_, fun b k hl => ?_, fun b hl hn => (hb b hl).trans (h.block b hl hn)⟩
  · have hl := lt_of_cell hu
    obtain ⟨u', h1, h2⟩ := h.cell b k u hu
    exact ⟨u', by rw [World.cell?_of_block (w := wr) (hb b hl)]; exact h1, h2⟩
  · unfold World.frozen?
    rw [hb b hl]
    exact h.free b k hl
theorem Cl.clip {S : Nat → Prop} {w : World} {b k : Nat} {oa : Option Addr} {n c c' : Nat} (h : w.cell? ⟨b, k, none⟩ = some (.slice oa n c)) (hc : n ≤ c') (hS : S b) : Cl S w (w.setCell ⟨b, k, none⟩ (.slice oa n c')) := by
  refine ⟨rfl, rfl, rfl, by simp, fun i j u hu => ?_, fun i j hi => World.frozen?_setCell _ _ _ _, fun i hi hn => Below.heap_setCell _ _ _ i (fun e => hn (by rw [e]; exact hS))⟩
  by_cases e : (⟨b, k, none⟩ : Addr) = ⟨i, j, none⟩
  · cases e
    rw [h] at hu
    cases hu
    exact ⟨_, World.cell?_setCell_same _ _ _ h, .inr ⟨_, _, _, _, rfl, rfl, hc⟩⟩
  · exact ⟨u, by rw [World.cell?_setCell_other _ _ _ _ e]; exact hu, .refl u⟩
structure XR.Like (r r' : XR) : Prop where
  h : r'.h = r.h
  oa : r'.oa = r.oa
  n : r'.n = r.n
  cap : r.n ≤ r'.cap
theorem like_self {r : XR} (h : r.n ≤ r.cap) : r.Like r := ⟨rfl, rfl, rfl, h⟩
theorem row_cl {S : Nat → Prop} {w w' : World} (h : Cl S w w') {b off : Nat} : ∀ (rs : List XR) (i0 : Nat), (∀ r ∈ rs, r.n ≤ r.cap) → (∀ k (hk : k < rs.length) j u, (xF rs[k])[j]? = some u → w.cell? ⟨b, off + (i0 + k) * 12 + j, none⟩ = some u) →
    ∃ rs' : List XR, rs'.length = rs.length ∧ (∀ k (h1 : k < rs.length) (h2 : k < rs'.length), rs[k].Like rs'[k]) ∧ ∀ k (hk : k < rs'.length) j u, (xF rs'[k])[j]? = some u → w'.cell? ⟨b, off + (i0 + k) * 12 + j, none⟩ = some u
  | [], i0, _, _ => ⟨[], rfl, fun k h1 => by simp at h1, fun k h1 => by simp at h1⟩
  | r :: rs, i0, hn, hc => by
    obtain ⟨rs', h1, h2, h3⟩ := row_cl h rs (i0 + 1) (fun x hx => hn x (by simp [hx])) (fun k hk j u hu => by
      have := hc (k + 1) (by simp; omega) j u (by simpa using hu)
      rw [show i0 + 1 + k = i0 + (k + 1) by omega]; exact this)
    have c0 : ∀ j u, (xF r)[j]? = some u → ∃ u', w'.cell? ⟨b, off + i0 * 12 + j, none⟩ = some u' ∧ SameV u u' := fun j u hu => h.cell _ _ _ (by have := hc 0 (by simp) j u (by simpa using hu); simpa using this)
    obtain ⟨u11, d11, s11⟩ := c0 11 _ rfl
    have hx : ∃ c', u11 = .slice r.oa r.n c' ∧ r.n ≤ c' := by
      rcases s11 with e | ⟨oa, n, c, c', e1, e2, e3⟩
      · exact ⟨r.cap, e.symm, hn r (by simp)⟩
      · cases e1; exact ⟨c', e2, e3⟩
    obtain ⟨c', rfl, hc'⟩ := hx
    have same : ∀ j u, (xF r)[j]? = some u → j ≠ 11 → w'.cell? ⟨b, off + i0 * 12 + j, none⟩ = some u := fun j u hu hj => by
      obtain ⟨u', d, s⟩ := c0 j u hu
      rcases s with e | ⟨oa, n, c, c', e1, e2, e3⟩
      · rw [e]; exact d
      · exfalso
        rcases j with _ | _ | _ | _ | _ | _ | _ | _ | _ | _ | _ | _ | j <;> simp [xF] at hu <;> first | omega | (subst hu; cases e1)
    refine ⟨{ r with cap := c' } :: rs', by simp [h1], fun k a1 a2 => ?_, fun k hk j u hu => ?_⟩
    · cases k with
      | zero => exact ⟨rfl, rfl, rfl, hc'⟩
      | succ k => exact h2 k (by simpa using a1) (by simpa using a2)
    · cases k with
      | zero =>
        simp only [List.getElem_cons_zero, Nat.add_zero] at hu ⊢
        by_cases hj : j = 11
        · subst hj
          simp [xF] at hu
          subst hu
          exact d11
        · refine same j u ?_ hj
          rcases j with _ | _ | _ | _ | _ | _ | _ | _ | _ | _ | _ | _ | j <;> first | exact hu | (exfalso; omega)
      | succ k =>
        have := h3 k (by simpa using hk) j u (by simpa using hu)
        rw [show i0 + (k + 1) = i0 + 1 + k by omega]; exact this
theorem xrow_cl {S S' : Nat → Prop} {w w' : World} (h : Cl S' w w') {oa : Option Addr} {rs : List XR} (hx : XRow S w oa rs) (hn : ∀ r ∈ rs, r.n ≤ r.cap) :
    ∃ rs' : List XR, rs'.length = rs.length ∧ (∀ k (h1 : k < rs.length) (h2 : k < rs'.length), rs[k].Like rs'[k]) ∧ XRow S w' oa rs' := by
  rcases hx with rfl | ⟨b, off, e, hl, hs, hf, hr⟩
  · exact ⟨[], rfl, fun k h1 => by simp at h1, .inl rfl⟩
  · obtain ⟨rs', h1, h2, h3⟩ := row_cl h (b := b) (off := off) rs 0 hn (fun k hk j u hu => by rw [Nat.zero_add]; exact hr k hk j u hu)
    exact ⟨rs', h1, h2, .inr ⟨b, off, e, Nat.lt_of_lt_of_le hl h.size, hs, fun j => (h.free b j hl).trans (hf j), fun k hk j u hu => by have := h3 k hk j u hu; rw [Nat.zero_add] at this; exact this⟩⟩
theorem Ex.At.fits {S : Nat → Prop} {w : World} {x : Ex} {r : XR} (h : Ex.At S w x r) : r.n ≤ r.cap := by
  cases x
  unfold Ex.At at h
  exact h.2.2.1.1
theorem Ex.At.bound {S : Nat → Prop} {w : World} {x : Ex} {r : XR} (h : Ex.At S w x r) : r.n ≤ 2000000 := by
  cases x
  unfold Ex.At at h
  exact h.2.2.1.2
theorem Exs.At.fits {S : Nat → Prop} {w : World} : ∀ {xs : List Ex} {rs : List XR}, Exs.At S w xs rs → ∀ r ∈ rs, r.n ≤ r.cap
  | [], rs, h => by unfold Exs.At at h; subst h; simp
  | x :: xs, rs, h => by
    unfold Exs.At at h
    obtain ⟨r, rr, rfl, h2, h3⟩ := h
    intro q hq
    rcases List.mem_cons.1 hq with rfl | hq
    · exact h2.fits
    · exact h3.fits q hq
mutual
theorem Ex.At.cl {S S' : Nat → Prop} {w w' : World} (h : Cl S' w w') : ∀ {x : Ex} {r r' : XR}, Ex.At S w x r → r.Like r' → Ex.At S w' x r'
  | .mk hd ks, r, r', hx, hl => by
    unfold Ex.At at hx ⊢
    obtain ⟨h1, h2, h3, rs, h4, h5, h6⟩ := hx
    obtain ⟨rs', k1, k2, k3⟩ := xrow_cl h h5 h6.fits
    refine ⟨by rw [hl.h]; exact h1, by rw [hl.n]; exact h2, by rw [hl.n]; exact ⟨hl.cap, h3.2⟩, rs', by rw [k1]; exact h4, by rw [hl.oa]; exact k3, Exs.At.cl h h6 k1 k2⟩
theorem Exs.At.cl {S S' : Nat → Prop} {w w' : World} (h : Cl S' w w') : ∀ {xs : List Ex} {rs rs' : List XR}, Exs.At S w xs rs → rs'.length = rs.length → (∀ k (h1 : k < rs.length) (h2 : k < rs'.length), rs[k].Like rs'[k]) → Exs.At S w' xs rs'
  | [], rs, rs', hx, hl, hk => by
    unfold Exs.At at hx ⊢
    subst hx
    exact List.eq_nil_of_length_eq_zero (by simpa using hl)
  | x :: xs, rs, rs', hx, hl, hk => by
    unfold Exs.At at hx ⊢
    obtain ⟨r, rr, rfl, h2, h3⟩ := hx
    cases rs' with
    | nil => simp at hl
    | cons q qs =>
      exact ⟨q, qs, rfl, Ex.At.cl h h2 (hk 0 (by simp) (by simp)), Exs.At.cl h h3 (by simpa using hl) (fun k h1 h2 => hk (k + 1) (by simp; omega) (by simp; omega))⟩
end
theorem Ex.At.clS {S S' : Nat → Prop} {w w' : World} {x : Ex} {r : XR} (hx : Ex.At S w x r) (h : Cl S' w w') : Ex.At S w' x r := hx.cl h (like_self hx.fits)
theorem XsAt.cl {S S' : Nat → Prop} {w w' : World} {xs : List Ex} {oa : Option Addr} {n cap : Nat} (hx : XsAt S w xs oa n cap) (h : Cl S' w w') : XsAt S w' xs oa n cap := by
  obtain ⟨h1, h2, rs, h3, h4, h5⟩ := hx
  obtain ⟨rs', k1, k2, k3⟩ := xrow_cl h h4 h5.fits
  exact ⟨h1, h2, rs', k1.trans h3, k3, h5.cl h k1 k2⟩
end Go.Proofs.Ytaogpifcfmjcbaa
end
section
namespace Go.Proofs.Ytaogpifcfmjcbaa
open Go.RowKit
set_option linter.unusedSimpArgs false
set_option linter.unusedVariables false
attribute [local go_sem] Rg.leads_value Rg.leads_skip Rg.leads_enter Rg.brings_value Rg.brings_skip Rg.brings_enter Rg.bringsG_value Rg.bringsG_enter Rg.once_normal Rg.once_exit Rg.once_ret Rg.once_panic Rg.once_goto
theorem text_eq (l : List UInt8) (c : ByteArray) : ((txt l).toList == c.toList) = (l == c.data.toList) := by
  rw [ByteArray.toList_eq, ByteArray.toList_eq]
  simp [txt]
theorem kind_eq (a b : Nat) : ((a : Int) == (b : Int)) = (a == b) := ibeq' a b
set_option maxHeartbeats 4000000 in
set_option maxRecDepth 100000 in
theorem is_bad (p : Nat) (k : Int) (c : ByteArray) (l : List Lx.Tok) (d e a : Int) (w : World) (h : PR p w l d e a) (he : e ≠ 0) : Calls Try.prog 31 #[.pointer (some ⟨p, 0, none⟩), .int .i64 k, .string c] w fun x w' => x = .returned (.bool false) ∧ w' = w := by
  obtain ⟨oa, cap, hh, hc, hat, hne⟩ := h.ex
  have r2 := Rg.blk_cells hh 2
  simp only [List.getElem?_toArray, List.getElem?_cons_zero, List.getElem?_cons_succ] at r2
  have q1 : (e == 0) = false := by simpa using he
  clear h hat hne hh
  go_enter Try.func31, Try.ntmps31
  go_wp2
  go_ret
  exact ⟨rfl, rfl⟩
set_option maxHeartbeats 4000000 in
set_option maxRecDepth 100000 in
theorem is_ok (p : Nat) (k : Nat) (c : ByteArray) (t : Lx.Tok) (r : List Lx.Tok) (d a : Int) (w : World) (h : PR p w (t :: r) d 0 a) : Calls Try.prog 31 #[.pointer (some ⟨p, 0, none⟩), .int .i64 (k : Int), .string c] w fun x w' => x = .returned (.bool (t.tk.kind == k && t.tk.text == c.data.toList)) ∧ w' = w := by
  obtain ⟨oa, cap, hh, hc, hat, hne⟩ := h.ex
  have r2 := Rg.blk_cells hh 2
  have r0 := Rg.blk_cells hh 0
  simp only [List.getElem?_toArray, List.getElem?_cons_zero, List.getElem?_cons_succ] at r2 r0
  obtain ⟨b, off, hoa, hb, c0, c1, c2, c3⟩ := t_get hat 0 (by simp)
  simp only [List.getElem_cons_zero, Nat.zero_mul, Nat.add_zero] at c0 c1 c2 c3
  subst hoa
  obtain ⟨n, hn⟩ : ∃ n, (t :: r).length = n := ⟨_, rfl⟩
  have hn1 : 1 ≤ n := by rw [← hn]; simp
  rw [hn] at r0 hc
  have g2 : (0 : Int) < (n : Int) := by omega
  have HK := hid (kind_eq t.tk.kind k)
  have HT := hid (text_eq t.tk.text c)
  clear h hat hne hh hn
  generalize t.tk.kind = tk at *
  generalize txt t.tk.text = tx at *
  cases hB : ((tk : Int) == (k : Int)) with
  | false =>
    rw [← HK.out, hB]
    go_enter Try.func31, Try.ntmps31
    go_wp2
    go_ret
    exact ⟨rfl, rfl⟩
  | true =>
    rw [← HK.out, hB, ← HT.out]
    generalize hQ : (tx.toList == c.toList) = q at *
    go_enter Try.func31, Try.ntmps31
    go_wp2
    go_ret
    exact ⟨rfl, rfl⟩
theorem PR.nil {p : Nat} {w : World} {d e a : Int} (h : PR p w [] d e a) : False := by have := h.tok.pos; simp at this
theorem is_any (p : Nat) (k : Nat) (c : ByteArray) (s : Ps) (w : World) (h : PS p w s) : Calls Try.prog 31 #[.pointer (some ⟨p, 0, none⟩), .int .i64 (k : Int), .string c] w fun x w' => x = .returned (.bool (s.is k c)) ∧ w' = w := by
  match s, h with
  | .bad e a, h => obtain ⟨he, l, d, h⟩ := h; exact is_bad p k c l d e a w h he
  | .ok [] d, h => exact h.2.nil.elim
  | .ok (t :: r) d, h => exact is_ok p k c t r d 0 w h.2
theorem is1_any (p : Nat) (c : ByteArray) (s : Ps) (w : World) (h : PS p w s) : Calls Try.prog 31 #[.pointer (some ⟨p, 0, none⟩), .int .i64 1, .string c] w fun x w' => x = .returned (.bool (s.is 1 c)) ∧ w' = w := is_any p 1 c s w h
theorem is4_any (p : Nat) (c : ByteArray) (s : Ps) (w : World) (h : PS p w s) : Calls Try.prog 31 #[.pointer (some ⟨p, 0, none⟩), .int .i64 4, .string c] w fun x w' => x = .returned (.bool (s.is 4 c)) ∧ w' = w := is_any p 4 c s w h
theorem PR.set (k : Nat) (u : Value) {p : Nat} {w : World} {l : List Lx.Tok} {d e a : Int} (h : PR p w l d e a) : ∃ oa c, (w.setCell ⟨p, k, none⟩ u).heap[p]? = some (.cells ([.slice oa l.length c, .int .i64 d, .int .i64 e, .int .i64 a].set k u).toArray 60 (0, 0)) ∧ l.length ≤ c ∧ TAt (w.setCell ⟨p, k, none⟩ u) oa l ∧ (∀ b off q, oa = some ⟨b, off, q⟩ → b < p) ∧ ∃ m, (w.setCell ⟨p, k, none⟩ u).cell? ⟨0, 0, none⟩ = some (.int .i64 m) := by
  obtain ⟨oa, c, hh, hc, hat, hne⟩ := h.ex
  obtain ⟨m, hm⟩ := h.gl
  have hp0 := h.p0
  exact ⟨oa, c, cells_set k u hh, hc, at_go hat (Go1.set p k w u) (fun b off q e => Nat.ne_of_lt (hne b off q e)), hne, m, (Go1.set p k w u).keep hm (by omega)⟩
theorem PR.deep {p : Nat} {w : World} {l : List Lx.Tok} {d e a : Int} (h : PR p w l d e a) (d' : Int) : PR p (w.setCell ⟨p, 1, none⟩ (.int .i64 d')) l d' e a := by
  obtain ⟨oa, c, h1, h2, h3, h4, h5⟩ := h.set 1 (.int .i64 d')
  exact ⟨⟨oa, c, h1, h2, h3, h4⟩, h.tok, h5, h.p0⟩
theorem PR.err {p : Nat} {w : World} {l : List Lx.Tok} {d e a : Int} (h : PR p w l d e a) (e' a' : Int) : PR p ((w.setCell ⟨p, 2, none⟩ (.int .i64 e')).setCell ⟨p, 3, none⟩ (.int .i64 a')) l d e' a' := by
  have h0 : PR p (w.setCell ⟨p, 2, none⟩ (.int .i64 e')) l d e' a := by
    obtain ⟨oa, c, h1, h2, h3, h4, h5⟩ := h.set 2 (.int .i64 e')
    exact ⟨⟨oa, c, h1, h2, h3, h4⟩, h.tok, h5, h.p0⟩
  obtain ⟨oa, c, h1, h2, h3, h4, h5⟩ := h0.set 3 (.int .i64 a')
  exact ⟨⟨oa, c, h1, h2, h3, h4⟩, h.tok, h5, h.p0⟩
theorem PR.next {p b off c : Nat} {w : World} {t : Lx.Tok} {r : List Lx.Tok} {d e a : Int} (h : PR p w (t :: r) d e a) (hh : w.heap[p]? = some (.cells #[.slice (some ⟨b, off, none⟩) (t :: r).length c, .int .i64 d, .int .i64 e, .int .i64 a] 60 (0, 0)))
    (hk : t.tk.kind ≠ 5) : PR p (w.setCell ⟨p, 0, none⟩ (.slice (some ⟨b, off + 4, none⟩) ((t :: r).length - 1) (c - 1))) r d e a := by
  obtain ⟨oa, c', h1, h2, h3, h4, h5⟩ := h.set 0 (.slice (some ⟨b, off + 4, none⟩) ((t :: r).length - 1) (c - 1))
  obtain ⟨oa0, c0, hh0, hc0, hat0, hne0⟩ := h.ex
  rw [hh] at hh0
  simp only [Option.some.injEq, Obj.cells.injEq, Array.mk.injEq, List.cons.injEq, Value.slice.injEq, and_true, true_and] at hh0
  obtain ⟨⟨rfl, _⟩, rfl⟩ := hh0
  rw [cells_set (l := [_, _, _, _]) 0 _ hh] at h1
  refine ⟨⟨some ⟨b, off + 4, none⟩, c - 1, cells_set (l := [_, _, _, _]) 0 _ hh, by simp at hc0; omega, ?_, fun b' o' q' e' => by cases e'; exact hne0 b off none rfl⟩, h.tok.tail hk, h5, h.p0⟩
  rcases at_go hat0 (Go1.set p 0 w (.slice (some ⟨b, off + 4, none⟩) ((t :: r).length - 1) (c - 1))) (fun b off q e => Nat.ne_of_lt (hne0 b off q e)) with h6 | ⟨b', off', e', hbl, hrow⟩
  · cases h6
  · cases e'
    refine .inr ⟨b, off + 4, rfl, hbl, fun k hk' j u hu => ?_⟩
    have := hrow (k + 1) (by simp; omega) j u (by simpa using hu)
    rw [show off + 4 + k * 4 + j = off + (k + 1) * 4 + j by omega]
    exact this
set_option maxHeartbeats 4000000 in
set_option maxRecDepth 100000 in
theorem fail_bad (p : Nat) (k : Int) (l : List Lx.Tok) (d e a : Int) (w : World) (h : PR p w l d e a) (he : e ≠ 0) : Calls Try.prog 36 #[.pointer (some ⟨p, 0, none⟩), .int .i64 k] w fun x w' => x = .returned (.tuple #[]) ∧ w' = w := by
  obtain ⟨oa, cap, hh, hc, hat, hne⟩ := h.ex
  have r2 := Rg.blk_cells hh 2
  simp only [List.getElem?_toArray, List.getElem?_cons_zero, List.getElem?_cons_succ] at r2
  have q1 : (e == 0) = false := by simpa using he
  clear h hat hne hh
  go_enter Try.func36, Try.ntmps36
  go_wp2
  exact ⟨rfl, .tuple #[], by simp [results, Try.results36], rfl, rfl⟩
set_option maxHeartbeats 4000000 in
set_option maxRecDepth 100000 in
theorem fail_ok (p : Nat) (k : Int) (t : Lx.Tok) (r : List Lx.Tok) (d a : Int) (w : World) (h : PR p w (t :: r) d 0 a) : Calls Try.prog 36 #[.pointer (some ⟨p, 0, none⟩), .int .i64 k] w fun x w' => x = .returned (.tuple #[]) ∧ w' = (w.setCell ⟨p, 2, none⟩ (.int .i64 k)).setCell ⟨p, 3, none⟩ (.int .i64 (t.pos : Int)) := by
  obtain ⟨oa, cap, hh, hc, hat, hne⟩ := h.ex
  have r2 := Rg.blk_cells hh 2
  have r0 := Rg.blk_cells hh 0
  have r3 := Rg.blk_cells hh 3
  have f2 := Rg.blk_free hh 2
  have f3 := Rg.blk_free hh 3
  simp only [List.getElem?_toArray, List.getElem?_cons_zero, List.getElem?_cons_succ] at r2 r0 r3
  obtain ⟨b, off, hoa, hb, c0, c1, c2, c3⟩ := t_get hat 0 (by simp)
  simp only [List.getElem_cons_zero, Nat.zero_mul, Nat.add_zero] at c0 c1 c2 c3
  have hbp : b ≠ p := Nat.ne_of_lt (hne b off none hoa)
  subst hoa
  obtain ⟨n, hn⟩ : ∃ n, (t :: r).length = n := ⟨_, rfl⟩
  have hn1 : 1 ≤ n := by rw [← hn]; simp
  rw [hn] at r0 hc
  have g2 : (0 : Int) < (n : Int) := by omega
  clear h hat hne hh hn
  go_enter Try.func36, Try.ntmps36
  go_wp2
  exact ⟨rfl, .tuple #[], by simp [results, Try.results36], rfl, rfl⟩
theorem fail_any (p : Nat) (k : Int) (s : Ps) (w : World) (h : PS p w s) (hk : k ≠ 0) : Calls Try.prog 36 #[.pointer (some ⟨p, 0, none⟩), .int .i64 k] w (Pm p w (.tuple #[]) (s.fail k)) := by
  match s, h with
  | .bad e a, h =>
    have h0 := h
    obtain ⟨he, l, d, h⟩ := h
    exact (fail_bad p k l d e a w h he).mono fun x w' ⟨h1, h2⟩ => ⟨h1, by rw [h2]; exact h0, by rw [h2]; exact .refl _ _⟩
  | .ok [] d, h => exact h.2.nil.elim
  | .ok (t :: r) d, h => exact (fail_ok p k t r d 0 w h.2).mono fun x w' ⟨h1, h2⟩ => ⟨h1, by rw [h2]; exact ⟨hk, _, _, h.2.err k _⟩, by rw [h2]; exact (Go1.set _ _ _ _).trans (Go1.set _ _ _ _)⟩
set_option maxHeartbeats 4000000 in
set_option maxRecDepth 100000 in
theorem wrong_any (p : Nat) (s : Ps) (w : World) (h : PS p w s) : Calls Try.prog 16 #[.pointer (some ⟨p, 0, none⟩)] w (Pm p w (.tuple #[]) (s.fail 180)) := by
  have H := fail_any p 180 s w h (by decide)
  go_enter Try.func16, Try.ntmps16
  go_wp2_with fail
  refine H.mono ?_
  rintro e w1 ⟨rfl, h1, h2⟩
  have HP : Hid (Pm p w (.tuple #[]) (s.fail 180) (.returned (.tuple #[])) w1) := hid ⟨rfl, h1, h2⟩
  generalize Pm p w (.tuple #[]) (s.fail 180) = Q at *
  clear H h h1 h2
  go_wp2
  exact ⟨rfl, .tuple #[], by simp [results, Try.results16], HP.out⟩
end Go.Proofs.Ytaogpifcfmjcbaa
end
section
namespace Go.Proofs.Ytaogpifcfmjcbaa
open Go.RowKit
set_option linter.unusedSimpArgs false
set_option linter.unusedVariables false
attribute [local go_sem] Rg.leads_value Rg.leads_skip Rg.leads_enter Rg.brings_value Rg.brings_skip Rg.brings_enter Rg.bringsG_value Rg.bringsG_enter Rg.once_normal Rg.once_exit Rg.once_ret Rg.once_panic Rg.once_goto
set_option maxHeartbeats 4000000 in
set_option maxRecDepth 100000 in
theorem step_ok (p : Nat) (t : Lx.Tok) (r : List Lx.Tok) (d e a : Int) (w : World) (h : PR p w (t :: r) d e a) (hk : t.tk.kind ≠ 5) : Calls Try.prog 58 #[.pointer (some ⟨p, 0, none⟩)] w fun x w' => x = .returned (.tuple #[]) ∧ PR p w' r d e a ∧ Go1 p w w' := by
  obtain ⟨oa, cap, hh, hc, hat, hne⟩ := h.ex
  have r0 := Rg.blk_cells hh 0
  have f0 := Rg.blk_free hh 0
  simp only [List.getElem?_toArray, List.getElem?_cons_zero, List.getElem?_cons_succ] at r0
  obtain ⟨b, off, hoa, hb, c0, c1, c2, c3⟩ := t_get hat 0 (by simp)
  simp only [List.getElem_cons_zero, Nat.zero_mul, Nat.add_zero] at c0 c1 c2 c3
  have hbp : b ≠ p := Nat.ne_of_lt (hne b off none hoa)
  have hr : 0 < r.length := (h.tok.tail hk).pos
  subst hoa
  have NX := hid (h.next hh hk)
  obtain ⟨n, hn⟩ : ∃ n, (t :: r).length = n := ⟨_, rfl⟩
  have hn1 : 2 ≤ n := by rw [← hn]; simp; omega
  rw [hn] at r0 hc NX
  have g2 : (0 : Int) < (n : Int) := by omega
  have g3 : (1 : Int) ≤ (n : Int) := by omega
  have g4 : decide ((1 : Int) ≤ (n : Int)) = true := by rw [decide_eq_true_iff]; omega
  have g5 : (n : Int) ≤ (cap : Int) := by omega
  have hc1 : cap ≠ 1 := by omega
  have hc2 : ¬ cap - 1 = 0 := by omega
  have q1 : ((t.tk.kind : Int) != 5) = true := by simp; omega
  clear hat hne hh hn hr h hk
  generalize t.tk.kind = tk at *
  go_enter Try.func58, Try.ntmps58
  go_wp2
  exact ⟨rfl, .tuple #[], by simp [results, Try.results58], rfl, NX.out, Go1.set _ _ _ _⟩
theorem step_any (p : Nat) (s : Ps) (w : World) (h : PS p w s) (hk : s.headK ≠ 5) (hg : s.good = true) : Calls Try.prog 58 #[.pointer (some ⟨p, 0, none⟩)] w (Pm p w (.tuple #[]) s.step) := by
  match s, h with
  | .bad e a, h => cases hg
  | .ok [] d, h => exact h.2.nil.elim
  | .ok (t :: r) d, h =>
    have hk' : t.tk.kind ≠ 5 := hk
    exact (step_ok p t r d 0 0 w h.2 hk').mono fun x w' ⟨h1, h2, h3⟩ => ⟨h1, by simp only [Ps.step, hk', if_false]; exact ⟨h.1, h2⟩, h3⟩
theorem is_head {s : Ps} {k : Nat} {c : ByteArray} (h : s.is k c = true) : s.good = true ∧ s.headK = k ∧ s.headT = c.data.toList := by
  match s, h with
  | .ok (t :: r) d, h => simp [Ps.is] at h; exact ⟨rfl, h.1, h.2⟩
set_option maxHeartbeats 4000000 in
set_option maxRecDepth 100000 in
theorem may_any (p : Nat) (k : Nat) (hk : k ≠ 5) (c : ByteArray) (s : Ps) (w : World) (h : PS p w s) : Calls Try.prog 35 #[.pointer (some ⟨p, 0, none⟩), .int .i64 (k : Int), .string c] w (Pm p w (.bool (s.is k c)) (s.may k c).2) := by
  have H := is_any p k c s w h
  cases hB : s.is k c with
  | false =>
    have HP : Hid (Pm p w (.bool false) (s.may k c).2 (.returned (.bool false)) w) := hid ⟨rfl, by simp [Ps.may, hB]; exact h, .refl _ _⟩
    rw [hB] at H
    generalize Pm p w (.bool false) (s.may k c).2 = Q at *
    clear h hk hB
    go_enter Try.func35, Try.ntmps35
    go_wp2_with fail
    refine H.mono ?_
    rintro e w1 ⟨rfl, rfl⟩
    go_wp2
    exact HP.out
  | true =>
    obtain ⟨h1, h2, h3⟩ := is_head hB
    have H2 := step_any p s w h (by rw [h2]; exact hk) h1
    have HP : Hid (∀ w', PS p w' s.step → Go1 p w w' → Pm p w (.bool true) (s.may k c).2 (.returned (.bool true)) w') := hid (fun w' a b => ⟨rfl, by simp [Ps.may, hB]; exact a, b⟩)
    rw [hB] at H
    generalize Pm p w (.bool true) (s.may k c).2 = Q at *
    clear h hk hB h1 h2 h3
    go_enter Try.func35, Try.ntmps35
    go_wp2_with fail
    refine H.mono ?_
    rintro e w1 ⟨rfl, rfl⟩
    go_wp2_with fail
    refine H2.mono ?_
    rintro e w2 ⟨rfl, h4, h5⟩
    have HR := hid (HP.out w2 h4 h5)
    clear h4 h5 HP H H2
    go_wp2
    exact HR.out
set_option maxHeartbeats 4000000 in
set_option maxRecDepth 100000 in
theorem word_any (p : Nat) (c : ByteArray) (s : Ps) (w : World) (h : PS p w s) : Calls Try.prog 25 #[.pointer (some ⟨p, 0, none⟩), .string c] w (Pm p w (.bool (s.is 1 c)) (s.may 1 c).2) := by
  have H : Calls Try.prog 35 #[.pointer (some ⟨p, 0, none⟩), .int .i64 1, .string c] w (Pm p w (.bool (s.is 1 c)) (s.may 1 c).2) := may_any p 1 (by decide) c s w h
  have HP : Hid (∀ w' u, Pm p w (.bool (s.is 1 c)) (s.may 1 c).2 u w' → u = .returned (.bool (s.is 1 c))) := hid (fun w' u h => h.1)
  generalize Pm p w (.bool (s.is 1 c)) (s.may 1 c).2 = Q at *
  generalize s.is 1 c = b at *
  clear h
  go_enter Try.func25, Try.ntmps25
  go_wp2_with fail
  refine H.mono ?_
  intro e w1 hq
  have he := HP.out w1 e hq
  subst he
  have HR := hid hq
  clear hq HP H
  go_wp2
  exact HR.out
set_option maxHeartbeats 4000000 in
set_option maxRecDepth 100000 in
theorem sign_any' (p : Nat) (c : ByteArray) (s : Ps) (w : World) (h : PS p w s) : Calls Try.prog 15 #[.pointer (some ⟨p, 0, none⟩), .string c] w (Pm p w (.bool (s.is 4 c)) (s.may 4 c).2) := by
  have H : Calls Try.prog 35 #[.pointer (some ⟨p, 0, none⟩), .int .i64 4, .string c] w (Pm p w (.bool (s.is 4 c)) (s.may 4 c).2) := may_any p 4 (by decide) c s w h
  have HP : Hid (∀ w' u, Pm p w (.bool (s.is 4 c)) (s.may 4 c).2 u w' → u = .returned (.bool (s.is 4 c))) := hid (fun w' u h => h.1)
  generalize Pm p w (.bool (s.is 4 c)) (s.may 4 c).2 = Q at *
  generalize s.is 4 c = b at *
  clear h
  go_enter Try.func15, Try.ntmps15
  go_wp2_with fail
  refine H.mono ?_
  intro e w1 hq
  have he := HP.out w1 e hq
  subst he
  have HR := hid hq
  clear hq HP H
  go_wp2
  exact HR.out
set_option maxHeartbeats 4000000 in
set_option maxRecDepth 100000 in
theorem must_any (p : Nat) (c : ByteArray) (s : Ps) (w : World) (h : PS p w s) : Calls Try.prog 34 #[.pointer (some ⟨p, 0, none⟩), .string c] w (Pm p w (.tuple #[]) (s.need 4 c)) := by
  have H := sign_any' p c s w h
  cases hB : s.is 4 c with
  | true =>
    have HP : Hid (∀ w', PS p w' (s.may 4 c).2 → Go1 p w w' → Pm p w (.tuple #[]) (s.need 4 c) (.returned (.tuple #[])) w') := hid (fun w' a b => ⟨rfl, by simp [Ps.may, Ps.need, hB] at a ⊢; exact a, b⟩)
    rw [hB] at H
    generalize Pm p w (.tuple #[]) (s.need 4 c) = Q at *
    go_enter Try.func34, Try.ntmps34
    go_wp2_with fail
    refine H.mono ?_
    rintro e w1 ⟨rfl, h4, h5⟩
    have HR := hid (HP.out w1 h4 h5)
    clear h4 h5 HP H h hB
    go_wp2
    exact ⟨rfl, .tuple #[], by simp [results, Try.results34], HR.out⟩
  | false =>
    have HP : Hid (∀ w' w2, PS p w2 (s.fail 180) → Go1 p w w' → Go1 p w' w2 → Pm p w (.tuple #[]) (s.need 4 c) (.returned (.tuple #[])) w2) := hid (fun w' w2 a b c => ⟨rfl, by simp [Ps.may, Ps.need, hB] at a ⊢; exact a, b.trans c⟩)
    have H2 := fun w h => wrong_any p s w h
    have e2 : (s.may 4 c).2 = s := by simp [Ps.may, hB]
    rw [hB, e2] at H
    generalize Pm p w (.tuple #[]) (s.need 4 c) = Q at *
    go_enter Try.func34, Try.ntmps34
    go_wp2_with fail
    refine H.mono ?_
    rintro e w1 ⟨rfl, h4, h5⟩
    go_wp2_with fail
    refine (H2 _ h4).mono ?_
    rintro e w2 ⟨rfl, h6, h7⟩
    have HR := hid (HP.out w1 w2 h6 h5 h7)
    clear h4 h5 h6 h7 HP H H2 h hB e2
    go_wp2
    exact ⟨rfl, .tuple #[], by simp [results, Try.results34], HR.out⟩
end Go.Proofs.Ytaogpifcfmjcbaa
end
section
namespace Go.Proofs.Ytaogpifcfmjcbaa
open Go.RowKit
set_option linter.unusedSimpArgs false
set_option linter.unusedVariables false
attribute [local go_sem] Rg.leads_value Rg.leads_skip Rg.leads_enter Rg.brings_value Rg.brings_skip Rg.brings_enter Rg.bringsG_value Rg.bringsG_enter Rg.once_normal Rg.once_exit Rg.once_ret Rg.once_panic Rg.once_goto
set_option maxHeartbeats 4000000 in
set_option maxRecDepth 100000 in
theorem words_one (p g : Nat) (c : ByteArray) (s : Ps) (w : World) (h : PS p w s) (hc : w.cell? ⟨g, 0, none⟩ = some (.string c)) : Calls Try.prog 28 #[.pointer (some ⟨p, 0, none⟩), .slice (some ⟨g, 0, none⟩) 1 1] w (Pm p w (.tuple #[]) (s.need 1 c)) := by
  have H := word_any p c s w h
  cases hB : s.is 1 c with
  | true =>
    have HP : Hid (∀ w', PS p w' (s.may 1 c).2 → Go1 p w w' → Pm p w (.tuple #[]) (s.need 1 c) (.returned (.tuple #[])) w') := hid (fun w' a b => ⟨rfl, by simp [Ps.may, Ps.need, hB] at a ⊢; exact a, b⟩)
    rw [hB] at H
    generalize Pm p w (.tuple #[]) (s.need 1 c) = Q at *
    go_enter Try.func28, Try.ntmps28
    go_wp2_with fail
    refine wp_loop_rounds 2 ?_
    rw [rounds_succ]
    go_wp2_with fail
    refine H.mono ?_
    rintro e w1 ⟨rfl, h4, h5⟩
    have HR := hid (HP.out w1 h4 h5)
    clear h4 h5 HP H h hB
    go_wp2
    rw [rounds_succ]
    go_wp2
    exact ⟨rfl, .tuple #[], by simp [results, Try.results28], HR.out⟩
  | false =>
    have HP : Hid (∀ w' w2, PS p w2 (s.fail 180) → Go1 p w w' → Go1 p w' w2 → Pm p w (.tuple #[]) (s.need 1 c) (.returned (.tuple #[])) w2) := hid (fun w' w2 a b c => ⟨rfl, by simp [Ps.may, Ps.need, hB] at a ⊢; exact a, b.trans c⟩)
    have H2 := fun w h => wrong_any p s w h
    have e2 : (s.may 1 c).2 = s := by simp [Ps.may, hB]
    rw [hB, e2] at H
    generalize Pm p w (.tuple #[]) (s.need 1 c) = Q at *
    go_enter Try.func28, Try.ntmps28
    go_wp2_with fail
    refine wp_loop_rounds 2 ?_
    rw [rounds_succ]
    go_wp2_with fail
    refine H.mono ?_
    rintro e w1 ⟨rfl, h4, h5⟩
    go_wp2_with fail
    refine (H2 _ h4).mono ?_
    rintro e w2 ⟨rfl, h6, h7⟩
    have HR := hid (HP.out w1 w2 h6 h5 h7)
    clear h4 h5 h6 h7 HP H H2 h hB e2
    go_wp2
    rw [rounds_succ]
    go_wp2
    exact ⟨rfl, .tuple #[], by simp [results, Try.results28], HR.out⟩
set_option maxHeartbeats 4000000 in
set_option maxRecDepth 100000 in
theorem up_raw (p : Nat) (l : List Lx.Tok) (d e a : Int) (w : World) (h : PR p w l d e a) : Calls Try.prog 70 #[.pointer (some ⟨p, 0, none⟩)] w fun x w' => x = .returned (.tuple #[]) ∧ w' = w.setCell ⟨p, 1, none⟩ (.int .i64 (wrap64 (d - 1))) := by
  obtain ⟨oa, cap, hh, hc, hat, hne⟩ := h.ex
  have r1 := Rg.blk_cells hh 1
  have f1 := Rg.blk_free hh 1
  simp only [List.getElem?_toArray, List.getElem?_cons_zero, List.getElem?_cons_succ] at r1
  clear h hat hne hh
  go_enter Try.func70, Try.ntmps70
  go_wp2
  exact ⟨rfl, .tuple #[], by simp [results, Try.results70], rfl, rfl⟩
theorem up_any (p : Nat) (s : Ps) (w : World) (h : PS p w s) (hd : ∀ l d, s = .ok l d → 1 ≤ d) : Calls Try.prog 70 #[.pointer (some ⟨p, 0, none⟩)] w (Pm p w (.tuple #[]) s.up) := by
  match s, h with
  | .bad e a, h =>
    obtain ⟨he, l, d, h⟩ := h
    exact (up_raw p l d e a w h).mono fun x w' ⟨h1, h2⟩ => ⟨h1, by rw [h2]; exact ⟨he, l, _, h.deep _⟩, by rw [h2]; exact .set _ _ _ _⟩
  | .ok l d, h =>
    have hd := hd l d rfl
    refine (up_raw p l d 0 0 w h.2).mono fun x w' ⟨h1, h2⟩ => ⟨h1, ?_, by rw [h2]; exact .set _ _ _ _⟩
    rw [h2, show wrap64 ((d : Int) - 1) = ((d - 1 : Nat) : Int) by have := h.1; unfold wrap64; omega]
    exact ⟨by have := h.1; omega, h.2.deep _⟩
set_option maxHeartbeats 4000000 in
set_option maxRecDepth 100000 in
theorem down_raw (p : Nat) (l : List Lx.Tok) (d : Nat) (w : World) (h : PR p w l d 0 0) (hd : d < 24) : Calls Try.prog 69 #[.pointer (some ⟨p, 0, none⟩)] w fun x w' => x = .returned (.bool true) ∧ w' = w.setCell ⟨p, 1, none⟩ (.int .i64 ((d : Int) + 1)) := by
  obtain ⟨oa, cap, hh, hc, hat, hne⟩ := h.ex
  have r1 := Rg.blk_cells hh 1
  have f1 := Rg.blk_free hh 1
  simp only [List.getElem?_toArray, List.getElem?_cons_zero, List.getElem?_cons_succ] at r1
  have q1 : ((d : Int) == 24) = false := by rw [beq_eq_false_iff_ne]; omega
  clear h hat hne hh
  go_enter Try.func69, Try.ntmps69
  go_wp2
  go_ret
  exact ⟨rfl, rfl⟩
set_option maxHeartbeats 4000000 in
set_option maxRecDepth 100000 in
theorem down_full (p : Nat) (s : Ps) (l : List Lx.Tok) (w : World) (h : PR p w l 24 0 0) (hs : s = .ok l 24) : Calls Try.prog 69 #[.pointer (some ⟨p, 0, none⟩)] w (Pm p w (.bool false) (s.fail 181)) := by
  have hS : PS p w s := by rw [hs]; exact ⟨by omega, h⟩
  obtain ⟨oa, cap, hh, hc, hat, hne⟩ := h.ex
  have r1 := Rg.blk_cells hh 1
  simp only [List.getElem?_toArray, List.getElem?_cons_zero, List.getElem?_cons_succ] at r1
  have H := fail_any p 181 s w hS (by decide)
  have HP : Hid (∀ w', PS p w' (s.fail 181) → Go1 p w w' → Pm p w (.bool false) (s.fail 181) (.returned (.bool false)) w') := hid (fun w' a b => ⟨rfl, a, b⟩)
  generalize Pm p w (.bool false) (s.fail 181) = Q at *
  clear h hat hne hh hS hs
  go_enter Try.func69, Try.ntmps69
  go_wp2_with fail
  refine H.mono ?_
  rintro e w1 ⟨rfl, h4, h5⟩
  have HR := hid (HP.out w1 h4 h5)
  clear h4 h5 HP H
  go_wp2
  exact HR.out
theorem down_any (p : Nat) (s : Ps) (w : World) (h : PS p w s) (hg : s.good = true) : Calls Try.prog 69 #[.pointer (some ⟨p, 0, none⟩)] w (Pm p w (.bool s.down.good) s.down) := by
  match s, h with
  | .bad e a, h => cases hg
  | .ok [] d, h => exact h.2.nil.elim
  | .ok (t :: r) d, h =>
    by_cases hd : d = 24
    · subst hd
      have := down_full p (.ok (t :: r) 24) (t :: r) w h.2 rfl
      exact this
    · have hd' : d < 24 := by have := h.1; omega
      refine (down_raw p (t :: r) d w h.2 hd').mono fun x w' ⟨h1, h2⟩ => ?_
      simp only [Ps.down, hd, if_false]
      exact ⟨h1, by rw [h2]; exact ⟨by omega, by rw [show ((d + 1 : Nat) : Int) = (d : Int) + 1 by omega]; exact h.2.deep _⟩, by rw [h2]; exact .set _ _ _ _⟩
end Go.Proofs.Ytaogpifcfmjcbaa
end
section
namespace Go.Proofs.Ytaogpifcfmjcbaa
open Go.RowKit
set_option linter.unusedSimpArgs false
set_option linter.unusedVariables false
attribute [local go_sem] Rg.leads_value Rg.leads_skip Rg.leads_enter Rg.brings_value Rg.brings_skip Rg.brings_enter Rg.bringsG_value Rg.bringsG_enter Rg.once_normal Rg.once_exit Rg.once_ret Rg.once_panic Rg.once_goto
set_option maxHeartbeats 4000000 in
set_option maxRecDepth 100000 in
theorem pname_bad (p : Nat) (e : Int) (a : Nat) (w : World) (h : PS p w (.bad e a)) : Calls Try.prog 29 #[.pointer (some ⟨p, 0, none⟩)] w (Pm p w (.string ⟨#[]⟩) (.bad e a)) := by
  have hS := h
  have hpw := hS.lt
  obtain ⟨he, l, d, h⟩ := h
  obtain ⟨oa, cap, hh, hc, hat, hne⟩ := h.ex
  have hpos := h.tok.pos
  have r0 := Rg.blk_cells hh 0
  have r2 := Rg.blk_cells hh 2
  simp only [List.getElem?_toArray, List.getElem?_cons_zero, List.getElem?_cons_succ] at r0 r2
  obtain ⟨b, off, hoa, hb, c0, c1, c2, c3⟩ := t_get hat 0 hpos
  simp only [Nat.zero_mul, Nat.add_zero] at c0 c1 c2 c3
  subst hoa
  have q1 : (e != 0) = true := by simpa using he
  have hS1 := fun o => hS.keep ((Gr.refl w).alloc o)
  have H2 := fun w h => wrong_any p (.bad e a) w h
  have HP : Hid (∀ o w', PS p w' (.bad e a) → Go1 p (w.alloc o) w' → Pm p w (.string ⟨#[]⟩) (.bad e a) (.returned (.string ⟨#[]⟩)) w') := hid (fun o w' a b => ⟨rfl, a, (Go1.of ((Gr.refl w).alloc o)).trans b⟩)
  generalize Pm p w (.string ⟨#[]⟩) (.bad e a) = Q at *
  generalize l[0].tk.kind = tk at *
  generalize l[0].tk.num = tn at *
  generalize l[0].pos = tp at *
  generalize txt l[0].tk.text = tx at *
  generalize l.length = n at *
  have g2 : (0 : Int) < (n : Int) := by omega
  clear h hat hne hh hS he
  go_enter Try.func29, Try.ntmps29
  go_wp2_with fail
  refine (H2 _ (hS1 _)).mono ?_
  rintro e w2 ⟨rfl, h6, h7⟩
  have HR := hid (HP.out _ w2 h6 h7)
  clear h6 h7 HP H2 hS1
  go_wp2
  exact HR.out
set_option maxHeartbeats 4000000 in
set_option maxRecDepth 100000 in
theorem pname_kind (p : Nat) (t : Lx.Tok) (r : List Lx.Tok) (d : Nat) (w : World) (h : PS p w (.ok (t :: r) d)) (hk : t.tk.kind ≠ 1) : Calls Try.prog 29 #[.pointer (some ⟨p, 0, none⟩)] w (Pm p w (.string ⟨#[]⟩) (Ps.fail 180 (.ok (t :: r) d))) := by
  have hS := h
  have hpw := hS.lt
  obtain ⟨hd, h⟩ := h
  obtain ⟨oa, cap, hh, hc, hat, hne⟩ := h.ex
  have r0 := Rg.blk_cells hh 0
  have r2 := Rg.blk_cells hh 2
  simp only [List.getElem?_toArray, List.getElem?_cons_zero, List.getElem?_cons_succ] at r0 r2
  obtain ⟨b, off, hoa, hb, c0, c1, c2, c3⟩ := t_get hat 0 (by simp)
  simp only [List.getElem_cons_zero, Nat.zero_mul, Nat.add_zero] at c0 c1 c2 c3
  subst hoa
  obtain ⟨n, hn⟩ : ∃ n, (t :: r).length = n := ⟨_, rfl⟩
  have hn1 : 1 ≤ n := by rw [← hn]; simp
  rw [hn] at r0 hc
  have g2 : (0 : Int) < (n : Int) := by omega
  have q1 : ((t.tk.kind : Int) != 1) = true := by simp; omega
  have hS1 := fun o => hS.keep ((Gr.refl w).alloc o)
  have H2 := fun w h => wrong_any p (.ok (t :: r) d) w h
  have HP : Hid (∀ o w', PS p w' (Ps.fail 180 (.ok (t :: r) d)) → Go1 p (w.alloc o) w' → Pm p w (.string ⟨#[]⟩) (Ps.fail 180 (.ok (t :: r) d)) (.returned (.string ⟨#[]⟩)) w') := hid (fun o w' a b => ⟨rfl, a, (Go1.of ((Gr.refl w).alloc o)).trans b⟩)
  generalize Pm p w (.string ⟨#[]⟩) (Ps.fail 180 (.ok (t :: r) d)) = Q at *
  generalize t.tk.kind = tk at *
  generalize t.tk.num = tn at *
  generalize t.pos = tp at *
  generalize txt t.tk.text = tx at *
  clear h hat hne hh hS hn
  go_enter Try.func29, Try.ntmps29
  go_wp2_with fail
  refine (H2 _ (hS1 _)).mono ?_
  rintro e w2 ⟨rfl, h6, h7⟩
  have HR := hid (HP.out _ w2 h6 h7)
  clear h6 h7 HP H2 hS1
  go_wp2
  exact HR.out
theorem txt_list (l : List UInt8) : (txt l).data.toList = l := by simp [txt]
theorem txt_size (l : List UInt8) : (txt l).size = l.length := by simp [txt, ByteArray.size]
set_option maxHeartbeats 4000000 in
set_option maxRecDepth 100000 in
theorem pname_word (p : Nat) (t : Lx.Tok) (r : List Lx.Tok) (d : Nat) (w : World) (h : PS p w (.ok (t :: r) d)) (hk : t.tk.kind = 1) : Calls Try.prog 29 #[.pointer (some ⟨p, 0, none⟩)] w (Pm p w (.string (Ps.name (.ok (t :: r) d)).1) (Ps.name (.ok (t :: r) d)).2) := by
  have hS := h
  have hpw := hS.lt
  obtain ⟨hd, h⟩ := h
  obtain ⟨oa, cap, hh, hc, hat, hne⟩ := h.ex
  obtain ⟨m, hm⟩ := h.gl
  have hsz : (txt t.tk.text).size ≤ 140737488355328 := by rw [txt_size]; have := h.tok.text t (by simp); omega
  have r0 := Rg.blk_cells hh 0
  have r2 := Rg.blk_cells hh 2
  simp only [List.getElem?_toArray, List.getElem?_cons_zero, List.getElem?_cons_succ] at r0 r2
  obtain ⟨b, off, hoa, hb, c0, c1, c2, c3⟩ := t_get hat 0 (by simp)
  simp only [List.getElem_cons_zero, Nat.zero_mul, Nat.add_zero] at c0 c1 c2 c3
  subst hoa
  obtain ⟨n, hn⟩ : ∃ n, (t :: r).length = n := ⟨_, rfl⟩
  have hn1 : 1 ≤ n := by rw [← hn]; simp
  rw [hn] at r0 hc
  have g2 : (0 : Int) < (n : Int) := by omega
  have q1 : ((t.tk.kind : Int) != 1) = false := by rw [hk]; rfl
  have H1 := fun o : Obj => name_any (txt t.tk.text) m (w.alloc o) hsz (by exact ((Gr.refl w).alloc o).keep hm)
  rw [txt_list] at H1
  cases hB : nameB t.tk.text with
  | false =>
    have e1 : Ps.name (.ok (t :: r) d) = (⟨#[]⟩, Ps.fail 180 (.ok (t :: r) d)) := by simp [Ps.name, Ps.isName, Ps.headK, Ps.headT, hk, hB]
    rw [e1]
    rw [hB] at H1
    have hS1 : Hid (∀ o w', Below (w.alloc o).heap.size (w.alloc o) w' → PS p w' (.ok (t :: r) d)) := hid (fun o w' hg => hS.keep (((Gr.refl w).alloc o).trans hg))
    have H2 := fun w h => wrong_any p (.ok (t :: r) d) w h
    have HP : Hid (∀ o w1 w', PS p w' (Ps.fail 180 (.ok (t :: r) d)) → Below (w.alloc o).heap.size (w.alloc o) w1 → Go1 p w1 w' → Pm p w (.string ⟨#[]⟩) (Ps.fail 180 (.ok (t :: r) d)) (.returned (.string ⟨#[]⟩)) w') := hid (fun o w1 w' a g b => ⟨rfl, a, (Go1.of (((Gr.refl w).alloc o).trans g)).trans b⟩)
    generalize Pm p w (.string ⟨#[]⟩) (Ps.fail 180 (.ok (t :: r) d)) = Q at *
    generalize t.tk.kind = tk at *
    generalize t.tk.num = tn at *
    generalize t.pos = tp at *
    generalize txt t.tk.text = tx at *
    clear h hat hne hh hS hn e1 hk hB hsz
    go_enter Try.func29, Try.ntmps29
    go_wp2_with fail
    refine (H1 _).mono ?_
    rintro e w1 ⟨rfl, hg⟩
    go_wp2_with fail
    refine (H2 _ (hS1.out _ _ hg)).mono ?_
    rintro e w2 ⟨rfl, h6, h7⟩
    have HR := hid (HP.out _ w1 w2 h6 hg h7)
    clear h6 h7 HP H2 hS1 hg H1
    go_wp2
    exact HR.out
  | true =>
    have hk5 : t.tk.kind ≠ 5 := by omega
    have e1 : Ps.name (.ok (t :: r) d) = (txt t.tk.text, Ps.step (.ok (t :: r) d)) := by simp [Ps.name, Ps.isName, Ps.headK, Ps.headT, hk, hB]
    rw [e1]
    rw [hB] at H1
    have hS1 : Hid (∀ o w', Below (w.alloc o).heap.size (w.alloc o) w' → PS p w' (.ok (t :: r) d)) := hid (fun o w' hg => hS.keep (((Gr.refl w).alloc o).trans hg))
    have H2 := fun w h => step_any p (.ok (t :: r) d) w h hk5 rfl
    have HC : Hid (∀ o w1 w', Below (w.alloc o).heap.size (w.alloc o) w1 → Go1 p w1 w' → ∀ i, w'.cell? ⟨w.heap.size, i, none⟩ = (w.alloc o).cell? ⟨w.heap.size, i, none⟩) := hid (fun o w1 w' g b i => by
      have hz := Below.size g
      simp only [World.size_alloc] at hz
      rw [b.cell (by omega) (by omega)]
      exact Gr.cells (w := w.alloc o) g _ _ (by simp))
    have HP : Hid (∀ o w1 w', PS p w' (Ps.step (.ok (t :: r) d)) → Below (w.alloc o).heap.size (w.alloc o) w1 → Go1 p w1 w' → Pm p w (.string (txt t.tk.text)) (Ps.step (.ok (t :: r) d)) (.returned (.string (txt t.tk.text))) w') := hid (fun o w1 w' a g b => ⟨rfl, a, (Go1.of (((Gr.refl w).alloc o).trans g)).trans b⟩)
    generalize Pm p w (.string (txt t.tk.text)) (Ps.step (.ok (t :: r) d)) = Q at *
    generalize t.tk.kind = tk at *
    generalize t.tk.num = tn at *
    generalize t.pos = tp at *
    generalize txt t.tk.text = tx at *
    clear h hat hne hh hS hn e1 hk hB hsz hk5
    go_enter Try.func29, Try.ntmps29
    go_wp2_with fail
    refine (H1 _).mono ?_
    rintro e w1 ⟨rfl, hg⟩
    go_wp2_with fail
    refine (H2 _ (hS1.out _ _ hg)).mono ?_
    rintro e w2 ⟨rfl, h6, h7⟩
    have HR := hid (HP.out _ w1 w2 h6 hg h7)
    have hcc := HC.out _ w1 w2 hg h7
    clear h6 h7 HP H2 hS1 hg H1 HC
    go_wp2
    exact HR.out
theorem pname_any (p : Nat) (s : Ps) (w : World) (h : PS p w s) : Calls Try.prog 29 #[.pointer (some ⟨p, 0, none⟩)] w (Pm p w (.string s.name.1) s.name.2) := by
  match s, h with
  | .bad e a, h => exact pname_bad p e a w h
  | .ok [] d, h => exact h.2.nil.elim
  | .ok (t :: r) d, h =>
    by_cases hk : t.tk.kind = 1
    · exact pname_word p t r d w h hk
    · have e1 : Ps.name (.ok (t :: r) d) = (⟨#[]⟩, Ps.fail 180 (.ok (t :: r) d)) := by simp [Ps.name, Ps.isName, Ps.headK, Ps.headT, hk]
      rw [e1]
      exact pname_kind p t r d w h hk
set_option maxHeartbeats 4000000 in
set_option maxRecDepth 100000 in
theorem pnum_bad (p : Nat) (e : Int) (a : Nat) (w : World) (h : PS p w (.bad e a)) : Calls Try.prog 61 #[.pointer (some ⟨p, 0, none⟩)] w (Pm p w (.int .i64 0) (.bad e a)) := by
  have hS := h
  have hpw := hS.lt
  obtain ⟨he, l, d, h⟩ := h
  obtain ⟨oa, cap, hh, hc, hat, hne⟩ := h.ex
  have hpos := h.tok.pos
  have r0 := Rg.blk_cells hh 0
  have r2 := Rg.blk_cells hh 2
  simp only [List.getElem?_toArray, List.getElem?_cons_zero, List.getElem?_cons_succ] at r0 r2
  obtain ⟨b, off, hoa, hb, c0, c1, c2, c3⟩ := t_get hat 0 hpos
  simp only [Nat.zero_mul, Nat.add_zero] at c0 c1 c2 c3
  subst hoa
  have q1 : (e != 0) = true := by simpa using he
  have hS1 := fun o => hS.keep ((Gr.refl w).alloc o)
  have H2 := fun w h => wrong_any p (.bad e a) w h
  have HP : Hid (∀ o w', PS p w' (.bad e a) → Go1 p (w.alloc o) w' → Pm p w (.int .i64 0) (.bad e a) (.returned (.int .i64 0)) w') := hid (fun o w' a b => ⟨rfl, a, (Go1.of ((Gr.refl w).alloc o)).trans b⟩)
  generalize Pm p w (.int .i64 0) (.bad e a) = Q at *
  generalize l[0].tk.kind = tk at *
  generalize l[0].tk.num = tn at *
  generalize l[0].pos = tp at *
  generalize txt l[0].tk.text = tx at *
  generalize l.length = n at *
  have g2 : (0 : Int) < (n : Int) := by omega
  clear h hat hne hh hS he
  go_enter Try.func61, Try.ntmps61
  go_wp2_with fail
  refine (H2 _ (hS1 _)).mono ?_
  rintro e w2 ⟨rfl, h6, h7⟩
  have HR := hid (HP.out _ w2 h6 h7)
  clear h6 h7 HP H2 hS1
  go_wp2
  exact HR.out
set_option maxHeartbeats 4000000 in
set_option maxRecDepth 100000 in
theorem pnum_kind (p : Nat) (t : Lx.Tok) (r : List Lx.Tok) (d : Nat) (w : World) (h : PS p w (.ok (t :: r) d)) (hk : t.tk.kind ≠ 2) : Calls Try.prog 61 #[.pointer (some ⟨p, 0, none⟩)] w (Pm p w (.int .i64 0) (Ps.fail 180 (.ok (t :: r) d))) := by
  have hS := h
  have hpw := hS.lt
  obtain ⟨hd, h⟩ := h
  obtain ⟨oa, cap, hh, hc, hat, hne⟩ := h.ex
  have r0 := Rg.blk_cells hh 0
  have r2 := Rg.blk_cells hh 2
  simp only [List.getElem?_toArray, List.getElem?_cons_zero, List.getElem?_cons_succ] at r0 r2
  obtain ⟨b, off, hoa, hb, c0, c1, c2, c3⟩ := t_get hat 0 (by simp)
  simp only [List.getElem_cons_zero, Nat.zero_mul, Nat.add_zero] at c0 c1 c2 c3
  subst hoa
  obtain ⟨n, hn⟩ : ∃ n, (t :: r).length = n := ⟨_, rfl⟩
  have hn1 : 1 ≤ n := by rw [← hn]; simp
  rw [hn] at r0 hc
  have g2 : (0 : Int) < (n : Int) := by omega
  have q1 : ((t.tk.kind : Int) != 2) = true := by simp; omega
  have hS1 := fun o => hS.keep ((Gr.refl w).alloc o)
  have H2 := fun w h => wrong_any p (.ok (t :: r) d) w h
  have HP : Hid (∀ o w', PS p w' (Ps.fail 180 (.ok (t :: r) d)) → Go1 p (w.alloc o) w' → Pm p w (.int .i64 0) (Ps.fail 180 (.ok (t :: r) d)) (.returned (.int .i64 0)) w') := hid (fun o w' a b => ⟨rfl, a, (Go1.of ((Gr.refl w).alloc o)).trans b⟩)
  generalize Pm p w (.int .i64 0) (Ps.fail 180 (.ok (t :: r) d)) = Q at *
  generalize t.tk.kind = tk at *
  generalize t.tk.num = tn at *
  generalize t.pos = tp at *
  generalize txt t.tk.text = tx at *
  clear h hat hne hh hS hn
  go_enter Try.func61, Try.ntmps61
  go_wp2_with fail
  refine (H2 _ (hS1 _)).mono ?_
  rintro e w2 ⟨rfl, h6, h7⟩
  have HR := hid (HP.out _ w2 h6 h7)
  clear h6 h7 HP H2 hS1
  go_wp2
  exact HR.out
set_option maxHeartbeats 4000000 in
set_option maxRecDepth 100000 in
theorem pnum_yes (p : Nat) (t : Lx.Tok) (r : List Lx.Tok) (d : Nat) (w : World) (h : PS p w (.ok (t :: r) d)) (hk : t.tk.kind = 2) : Calls Try.prog 61 #[.pointer (some ⟨p, 0, none⟩)] w (Pm p w (.int .i64 (t.tk.num : Int)) (Ps.step (.ok (t :: r) d))) := by
  have hS := h
  have hpw := hS.lt
  obtain ⟨hd, h⟩ := h
  obtain ⟨oa, cap, hh, hc, hat, hne⟩ := h.ex
  have r0 := Rg.blk_cells hh 0
  have r2 := Rg.blk_cells hh 2
  simp only [List.getElem?_toArray, List.getElem?_cons_zero, List.getElem?_cons_succ] at r0 r2
  obtain ⟨b, off, hoa, hb, c0, c1, c2, c3⟩ := t_get hat 0 (by simp)
  simp only [List.getElem_cons_zero, Nat.zero_mul, Nat.add_zero] at c0 c1 c2 c3
  subst hoa
  obtain ⟨n, hn⟩ : ∃ n, (t :: r).length = n := ⟨_, rfl⟩
  have hn1 : 1 ≤ n := by rw [← hn]; simp
  rw [hn] at r0 hc
  have g2 : (0 : Int) < (n : Int) := by omega
  have q1 : ((t.tk.kind : Int) != 2) = false := by rw [hk]; rfl
  have hk5 : t.tk.kind ≠ 5 := by omega
  have hS1 : Hid (∀ o, PS p (w.alloc o) (.ok (t :: r) d)) := hid (fun o => hS.keep ((Gr.refl w).alloc o))
  have H2 := fun w h => step_any p (.ok (t :: r) d) w h hk5 rfl
  have HC : Hid (∀ o w', Go1 p (w.alloc o) w' → ∀ i, w'.cell? ⟨w.heap.size, i, none⟩ = (w.alloc o).cell? ⟨w.heap.size, i, none⟩) := hid (fun o w' b i => b.cell (by simp) (by omega))
  have HP : Hid (∀ o w', PS p w' (Ps.step (.ok (t :: r) d)) → Go1 p (w.alloc o) w' → Pm p w (.int .i64 (t.tk.num : Int)) (Ps.step (.ok (t :: r) d)) (.returned (.int .i64 (t.tk.num : Int))) w') := hid (fun o w' a b => ⟨rfl, a, (Go1.of ((Gr.refl w).alloc o)).trans b⟩)
  generalize Pm p w (.int .i64 (t.tk.num : Int)) (Ps.step (.ok (t :: r) d)) = Q at *
  generalize t.tk.kind = tk at *
  generalize t.tk.num = tn at *
  generalize t.pos = tp at *
  generalize txt t.tk.text = tx at *
  clear h hat hne hh hS hn hk hk5
  go_enter Try.func61, Try.ntmps61
  go_wp2_with fail
  refine (H2 _ (hS1.out _)).mono ?_
  rintro e w2 ⟨rfl, h6, h7⟩
  have HR := hid (HP.out _ w2 h6 h7)
  have hcc := HC.out _ w2 h7
  clear h6 h7 HP H2 hS1 HC
  go_wp2
  exact HR.out
theorem pnum_any (p : Nat) (s : Ps) (w : World) (h : PS p w s) : Calls Try.prog 61 #[.pointer (some ⟨p, 0, none⟩)] w (Pm p w (.int .i64 s.num.1) s.num.2) := by
  match s, h with
  | .bad e a, h => exact pnum_bad p e a w h
  | .ok [] d, h => exact h.2.nil.elim
  | .ok (t :: r) d, h =>
    by_cases hk : t.tk.kind = 2
    · have e1 : Ps.num (.ok (t :: r) d) = ((t.tk.num : Int), Ps.step (.ok (t :: r) d)) := by simp [Ps.num, Ps.headK, Ps.headN, hk]
      rw [e1]
      exact pnum_yes p t r d w h hk
    · have e1 : Ps.num (.ok (t :: r) d) = (0, Ps.fail 180 (.ok (t :: r) d)) := by simp [Ps.num, Ps.headK, hk]
      rw [e1]
      exact pnum_kind p t r d w h hk
end Go.Proofs.Ytaogpifcfmjcbaa
end
section
namespace Go.Proofs.Ytaogpifcfmjcbaa
open Go.RowKit
set_option linter.unusedSimpArgs false
set_option linter.unusedVariables false
attribute [local go_sem] Rg.leads_value Rg.leads_skip Rg.leads_enter Rg.brings_value Rg.brings_skip Rg.brings_enter Rg.bringsG_value Rg.bringsG_enter Rg.once_normal Rg.once_exit Rg.once_ret Rg.once_panic Rg.once_goto Rg.bringsS_value Rg.bringsS_skip Rg.bringsS_enter Rg.still_value Rg.still_skip Rg.still_enter
section
variable {P : Program} {ops : Array Oper} {Cs : List Nat} {Ws : List (Nat × Nat)} {St : Nat → (Nat → Value) → World → Prop} {v : Nat → Value} {i s : Nat} {o : Oper} {a : Act}
theorem sc_still {c : Value} (hC : Cs.contains i = false) (hw : Region.wanted o (yielded ops a.tmps) = true) (h : ∀ s w, Rg.limC Cs Ws i s → St s v w → Rg.Still w c ((execOp a.eval o).run P w)) : Rg.StepC P ops Cs Ws St v (some c) i s o a := by
  unfold Rg.StepC
  rw [hC]
  simp only [Bool.false_eq_true, if_false]
  exact .inl ⟨hw, h⟩
theorem sc_call {c : Value} (hC : Cs.contains i = true) (hw : Region.wanted o (yielded ops a.tmps) = true) (h : ∀ w, St s v w → Rg.BringsS P (fun u w' => u = c ∧ St (s + 1) v w') ((execOp a.eval o).run P w)) : Rg.StepC P ops Cs Ws St v (some c) i s o a := by
  unfold Rg.StepC
  rw [hC]
  simp only [if_true]
  exact ⟨hw, h⟩
theorem sc_new (hC : Cs.contains i = true) (hw : Region.wanted o (yielded ops a.tmps) = true) (h : ∀ w, St s v w → Rg.BringsS P (fun u w' => St (s + 1) (Rg.upd v i u) w') ((execOp a.eval o).run P w)) : Rg.StepC P ops Cs Ws St v none i s o a := by
  unfold Rg.StepC
  rw [hC]
  simp only [if_true]
  exact ⟨hw, h⟩
end
theorem upd_same (v : Nat → Value) (i : Nat) (u : Value) : Rg.upd v i u i = u := by simp [Rg.upd]
def Late (idx : Nat) (w : World) (RX : World → Value → World → Prop) (s : Nat) (v : Nat → Value) (W : World) : Prop := if s = 0 then Gr w W else ∃ W0, Gr w W0 ∧ RX W0 (v idx) W
theorem late0 {idx : Nat} {w W : World} {RX : World → Value → World → Prop} {v : Nat → Value} (h : Gr w W) : Late idx w RX 0 v W := by unfold Late; rw [if_pos rfl]; exact h
theorem late_0 {idx : Nat} {w W : World} {RX : World → Value → World → Prop} {v : Nat → Value} (h : Late idx w RX 0 v W) : Gr w W := by unfold Late at h; rw [if_pos rfl] at h; exact h
theorem late1 {idx : Nat} {w W : World} {RX : World → Value → World → Prop} {v : Nat → Value} (h : ∃ W0, Gr w W0 ∧ RX W0 (v idx) W) : Late idx w RX 1 v W := by unfold Late; rw [if_neg (by decide)]; exact h
theorem late_1 {idx : Nat} {w W : World} {RX : World → Value → World → Prop} {v : Nat → Value} (h : Late idx w RX 1 v W) : ∃ W0, Gr w W0 ∧ RX W0 (v idx) W := by unfold Late at h; rw [if_neg (by decide)] at h; exact h
theorem late_any {idx s p : Nat} {w W : World} {RX : World → Value → World → Prop} {v : Nat → Value} (hR : ∀ W0 u W, RX W0 u W → Go1 p W0 W) (h : Late idx w RX s v W) : Go1 p w W := by
  unfold Late at h
  split at h
  · exact .of h
  · obtain ⟨W0, h1, h2⟩ := h; exact (Go1.of h1).trans (hR _ _ _ h2)
theorem Rx.go {p : Nat} {q : Ex × Ps} {W0 : World} {u : Value} {W : World} (h : Rx p W0 q u W) : Go1 p W0 W := by obtain ⟨_, _, _, _, _, h, _⟩ := h; exact h
set_option maxHeartbeats 4000000 in
set_option maxRecDepth 100000 in
theorem tree_any (op : Int) (oa : Option Addr) (n cap : Nat) (w : World) : Calls Try.prog 45 #[.int .i64 op, .slice oa n cap] w fun e w' => e = .returned (XR.val ⟨{ op := op }, oa, n, cap⟩) ∧ Gr w w' := by
  go_enter Try.func45, Try.ntmps45
  go_wp2
  refine bodyPost_ret (by simp [results, Try.results45, go_sem]; try rfl) rfl ?_
  exact ⟨rfl, (Gr.refl w).alloc _⟩
set_option maxHeartbeats 4000000 in
set_option maxRecDepth 100000 in
theorem lit_any (v : V) (w : World) : Calls Try.prog 87 #[v.val] w fun e w' => e = .returned (XR.val ⟨{ op := 1, v := v }, none, 0, 0⟩) ∧ Gr w w' := by
  unfold V.val
  go_enter Try.func87, Try.ntmps87
  go_wp2
  refine bodyPost_ret (by simp [results, Try.results87, go_sem]; try rfl) rfl ?_
  exact ⟨rfl, ((Gr.refl w).alloc _).alloc _⟩
def LfRel (ops : List (ByteArray × Int)) (k : Nat) (q : Pa Ex) (p N : Nat) (w : World) (R0 E : Nat) (R : Ex × Ps) (wr : World) : Prop := ∃ r x x0 s n, wr.heap[E]? = some (.cells (XR.cells r) 32 (0, 0)) ∧ wr.heap[R0]? = some (.cells (XR.cells ⟨{ op := 0 }, none, 0, 0⟩) 32 (0, 0)) ∧
  Ex.At (fun b => w.heap.size ≤ b ∧ b ≠ E ∧ b ≠ R0) wr x r ∧ (s.good = true → x = x0) ∧ lefts ops k q n x0 s = R ∧ s.size ≤ n ∧ s.size ≤ N ∧ PS p wr s ∧ Go1 p w wr
theorem row2 (w : World) (r1 r2 : XR) {g : Nat} (h : w.heap[g]? = some (.cells (r1.cells ++ r2.cells) 32 (0, 0))) : RowF xF 12 w g 0 [r1, r2] := by
  intro k hk j u hu
  have hj : j < 12 := by rw [← xE.len [r1, r2][k]]; exact (List.getElem?_eq_some_iff.1 hu).1
  rw [Rg.blk_cells h]
  rcases k with _ | _ | k
  · rw [Array.getElem?_append_left (by show 0 + 0 * 12 + j < 12; omega)]
    simpa [xF, XR.cells] using hu
  · rw [Array.getElem?_append_right (by show 12 ≤ _; omega)]
    rw [show 0 + (0 + 1) * 12 + j - (XR.cells r1).size = j by show 0 + (0 + 1) * 12 + j - 12 = j; omega]
    simpa [xF, XR.cells] using hu
  · simp at hk; omega
abbrev zeroX : Array Value := #[.int .i64 0, .int .i64 0, .int .i64 0, .string ⟨#[]⟩, .bool false, .string ⟨#[]⟩, .string ⟨#[]⟩, .int .i64 0, .int .i64 0, .bool false, .bool false, .slice none 0 0]
theorem Go1.own {p E : Nat} {a b c : World} (h : Go1 p a b) (k : Go1 E b c) (hE : a.heap.size ≤ E) : Go1 p a c :=
  ⟨k.os.trans h.os, k.tape.trans h.tape, k.output.trans h.output, Nat.le_trans h.size k.size, fun i hi hne => (k.block i (Nat.lt_of_lt_of_le hi h.size) (fun e => by cases e; omega)).trans (h.block i hi hne)⟩
theorem Go1.block2 {p : Nat} {a b c : World} (h : Go1 p a b) (k : Gr b c) : Go1 p a c := h.trans (.of k)
theorem alloc_at (w : World) (o : Obj) : (w.alloc o).heap[w.heap.size]? = some o := Rg.heap_new w o
theorem LfRel.start {ops : List (ByteArray × Int)} {k p N : Nat} {q : Pa Ex} {w w1 : World} {s : Ps} {R : Ex × Ps} {r : XR} {x : Ex} (hpw : p < w.heap.size)
    (hx : Ex.At (Nw (w.alloc (.cells zeroX 32))) w1 x r) (hps : PS p w1 (q s).2) (hgo : Go1 p (w.alloc (.cells zeroX 32)) w1) (hgd : (q s).2.good = true → x = (q s).1) (hn : NI q) (hsN : s.size ≤ N) (hR : left ops k q s = R) :
    LfRel ops k q p N w w.heap.size w1.heap.size R (w1.alloc (.cells r.cells 32)) := by
  have hz := hgo.size
  simp only [World.size_alloc] at hz
  have hG := (Gr.refl w1).alloc (.cells r.cells 32)
  refine ⟨r, x, (q s).1, (q s).2, (q s).2.size, alloc_at _ _, ?_, ?_, hgd, hR, Nat.le_refl _, Nat.le_trans (hn s) hsN, hps.keep hG, ((Go1.of ((Gr.refl w).alloc _)).trans hgo).block2 hG⟩
  · rw [hG.block _ (by omega), hgo.get (by simp) (by omega)]
    exact alloc_at _ _
  · refine (hx.mono (fun b hb hs => ?_)).of hG.size (fun b _ hb => hG.block b hb)
    simp only [Nw, World.size_alloc] at hs
    exact ⟨by omega, by omega, by omega⟩
theorem LfRel.next {ops : List (ByteArray × Int)} {k p N : Nat} {q : Pa Ex} {w : World} {R0 E : Nat} {R : Ex × Ps} {wr w2 W0 W W4 : World} {r ry : XR} {x y x0 : Ex} {s : Ps} {n : Nat} {o : ByteArray × Int}
    (hk5 : k ≠ 5) (hpw : p < w.heap.size) (hR0 : R0 = w.heap.size) (hE : R0 < E)
    (hbE : wr.heap[E]? = some (.cells r.cells 32 (0, 0))) (hb0 : wr.heap[R0]? = some (.cells (XR.cells ⟨{ op := 0 }, none, 0, 0⟩) 32 (0, 0)))
    (hx : Ex.At (fun b => w.heap.size ≤ b ∧ b ≠ E ∧ b ≠ R0) wr x r) (hxs : s.good = true → x = x0) (hR : lefts ops k q n x0 s = R) (hsn : s.size ≤ n) (hsN : s.size ≤ N) (hgo : Go1 p w wr)
    (hf : ops.find? (fun o => s.is k o.1) = some o) (hn : NI q)
    (hg2 : Go1 p wr w2) (hW0 : Gr w2 W0) (hy : Ex.At (Nw W0) W y ry) (hps : PS p W (q s.step).2) (hgW : Go1 p W0 W) (hyg : (q s.step).2.good = true → y = (q s.step).1)
    {cs : Array Value} (hcat : cs = r.cells ++ ry.cells) (h4 : Gr (W.alloc (.cells cs 32)) W4) {b0 b1 b2 b3 b4 b5 b6 b7 b8 b9 b10 b11 : Value} (hcs : XR.cells ⟨{ op := o.2 }, some ⟨W.heap.size, 0, none⟩, 2, 2⟩ = #[b0, b1, b2, b3, b4, b5, b6, b7, b8, b9, b10, b11]) :
    LfRel ops k q p N w R0 E R ((((((((((((W4.setCell ⟨E, 0, none⟩ b0).setCell ⟨E, 1, none⟩ b1).setCell ⟨E, 2, none⟩ b2).setCell ⟨E, 3, none⟩ b3).setCell ⟨E, 4, none⟩ b4).setCell ⟨E, 5, none⟩ b5).setCell ⟨E, 6, none⟩ b6).setCell ⟨E, 7, none⟩ b7).setCell ⟨E, 8, none⟩ b8).setCell ⟨E, 9, none⟩ b9).setCell ⟨E, 10, none⟩ b10).setCell ⟨E, 11, none⟩ b11) ∧ lenAt p ((((((((((((W4.setCell ⟨E, 0, none⟩ b0).setCell ⟨E, 1, none⟩ b1).setCell ⟨E, 2, none⟩ b2).setCell ⟨E, 3, none⟩ b3).setCell ⟨E, 4, none⟩ b4).setCell ⟨E, 5, none⟩ b5).setCell ⟨E, 6, none⟩ b6).setCell ⟨E, 7, none⟩ b7).setCell ⟨E, 8, none⟩ b8).setCell ⟨E, 9, none⟩ b9).setCell ⟨E, 10, none⟩ b10).setCell ⟨E, 11, none⟩ b11) < s.size := by
  subst hcat
  have his : s.is k o.1 = true := by have := List.find?_some hf; exact this
  obtain ⟨hs1, hs2, hs3⟩ := is_step his hk5
  have hgr : Gr W W4 := ((Gr.refl W).alloc _).trans h4
  have hG : Go1 p wr W4 := ((hg2.trans (.of hW0)).trans hgW).block2 hgr
  have hEl : E < wr.heap.size := (Array.getElem?_eq_some_iff.1 hbE).1
  have hz2 := hg2.size
  have hzW := hgW.size
  have hz0 := hW0.size
  have hz4 := hgr.size
  have hW : W4.heap[E]? = some (.cells r.cells 32 (0, 0)) := by rw [hG.get hEl (by omega)]; exact hbE
  have hS := Go1.set12 E W4 b0 b1 b2 b3 b4 b5 b6 b7 b8 b9 b10 b11
  have hT := set12 hW b0 b1 b2 b3 b4 b5 b6 b7 b8 b9 b10 b11
  generalize ((((((((((((W4.setCell ⟨E, 0, none⟩ b0).setCell ⟨E, 1, none⟩ b1).setCell ⟨E, 2, none⟩ b2).setCell ⟨E, 3, none⟩ b3).setCell ⟨E, 4, none⟩ b4).setCell ⟨E, 5, none⟩ b5).setCell ⟨E, 6, none⟩ b6).setCell ⟨E, 7, none⟩ b7).setCell ⟨E, 8, none⟩ b8).setCell ⟨E, 9, none⟩ b9).setCell ⟨E, 10, none⟩ b10).setCell ⟨E, 11, none⟩ b11) = W5 at *
  have hlt : (q s.step).2.size < s.size := by have := hn s.step; omega
  have hzS := hS.size
  have hrow : W4.heap[W.heap.size]? = some (.cells (r.cells ++ ry.cells) 32 (0, 0)) := by rw [h4.block _ (by simp)]; exact alloc_at _ _
  have hrl : W.heap.size < W4.heap.size := (Array.getElem?_eq_some_iff.1 hrow).1
  have hPS : PS p W5 (q s.step).2 := (hps.keep hgr).go hS (by omega)
  refine ⟨?_, by rw [lenAt_ps hPS]; exact hlt⟩
  cases n with
  | zero => omega
  | succ n =>
    have hR' : lefts ops k q n (tre o.2 [x0, (q s.step).1]) (q s.step).2 = R := by
      rw [← hR]
      conv => rhs; unfold lefts
      rw [hf]
    refine ⟨_, tre o.2 [x, y], tre o.2 [x0, (q s.step).1], (q s.step).2, n, by rw [hcs]; exact hT, ?_, ?_, ?_, hR', by omega, by omega, ?_, ?_⟩
    · rw [hS.get (by omega) (by omega), hG.get (by omega) (by omega)]; exact hb0
    · unfold tre
      rw [Ex.At.list]
      refine ⟨rfl, rfl, fit_le 2 (by decide), [r, ry], rfl, .inr ⟨W.heap.size, 0, rfl, by omega, ⟨?_, by omega, by omega⟩, Rg.blk_free ((hS.get hrl (by omega)).trans hrow), ?_⟩, Exs.At.cons ?_ (Exs.At.cons ?_ Exs.At.nil)⟩
      · have := hgo.size; omega
      · exact row2 _ _ _ (by rw [hS.get hrl (by omega)]; exact hrow)
      · refine hx.of (by omega) (fun b hb hl => ?_)
        rw [hS.get (by omega) hb.2.1, hG.get hl (by omega)]
      · refine (hy.mono (S' := fun b => w.heap.size ≤ b ∧ b ≠ E ∧ b ≠ R0) (fun b hl hb => ?_)).of (by omega) (fun b hb hl => ?_)
        · have h1 := hgo.size
          have h2 : W0.heap.size ≤ b := hb
          exact ⟨by omega, by omega, by omega⟩
        · rw [hS.get (by omega) hb.2.1, hgr.block _ hl]
    · intro hg
      rw [hxs hs3, hyg hg]
    · exact hPS
    · exact (hgo.trans hG).own hS (by omega)
theorem give {p : Nat} {w w2 : World} {R0 : Nat} {R : Ex × Ps} {r : XR} {x : Ex} (hpw : p < w.heap.size) (hR0 : R0 = w.heap.size) (hx : Ex.At (fun b => w.heap.size ≤ b ∧ b ≠ R0) w2 x r) (hps : PS p w2 R.2) (hgo : Go1 p w w2) (hxs : R.2.good = true → x = R.1) (b0 b1 b2 b3 b4 b5 b6 b7 b8 b9 b10 b11 : Value) :
    Rx p w R r.val (((((((((((((w2.setCell ⟨R0, 0, none⟩ b0).setCell ⟨R0, 1, none⟩ b1).setCell ⟨R0, 2, none⟩ b2).setCell ⟨R0, 3, none⟩ b3).setCell ⟨R0, 4, none⟩ b4).setCell ⟨R0, 5, none⟩ b5).setCell ⟨R0, 6, none⟩ b6).setCell ⟨R0, 7, none⟩ b7).setCell ⟨R0, 8, none⟩ b8).setCell ⟨R0, 9, none⟩ b9).setCell ⟨R0, 10, none⟩ b10).setCell ⟨R0, 11, none⟩ b11)) := by
  have hS := Go1.set12 R0 w2 b0 b1 b2 b3 b4 b5 b6 b7 b8 b9 b10 b11
  generalize ((((((((((((w2.setCell ⟨R0, 0, none⟩ b0).setCell ⟨R0, 1, none⟩ b1).setCell ⟨R0, 2, none⟩ b2).setCell ⟨R0, 3, none⟩ b3).setCell ⟨R0, 4, none⟩ b4).setCell ⟨R0, 5, none⟩ b5).setCell ⟨R0, 6, none⟩ b6).setCell ⟨R0, 7, none⟩ b7).setCell ⟨R0, 8, none⟩ b8).setCell ⟨R0, 9, none⟩ b9).setCell ⟨R0, 10, none⟩ b10).setCell ⟨R0, 11, none⟩ b11) = W5 at *
  refine ⟨r, x, rfl, ?_, hps.go hS (by omega), hgo.own hS (by omega), hxs⟩
  exact (hx.of hS.size (fun b hb hl => hS.get hl hb.2)).mono (fun b _ hb => hb.1)
theorem Rx.at12 {p : Nat} {w w2 W5 : World} {R0 : Nat} {R : Ex × Ps} {u : Value} {b0 b1 b2 b3 b4 b5 b6 b7 b8 b9 b10 b11 : Value} (h : ∀ b0 b1 b2 b3 b4 b5 b6 b7 b8 b9 b10 b11 : Value, Rx p w R u (((((((((((((w2.setCell ⟨R0, 0, none⟩ b0).setCell ⟨R0, 1, none⟩ b1).setCell ⟨R0, 2, none⟩ b2).setCell ⟨R0, 3, none⟩ b3).setCell ⟨R0, 4, none⟩ b4).setCell ⟨R0, 5, none⟩ b5).setCell ⟨R0, 6, none⟩ b6).setCell ⟨R0, 7, none⟩ b7).setCell ⟨R0, 8, none⟩ b8).setCell ⟨R0, 9, none⟩ b9).setCell ⟨R0, 10, none⟩ b10).setCell ⟨R0, 11, none⟩ b11))) (e : ((((((((((((w2.setCell ⟨R0, 0, none⟩ b0).setCell ⟨R0, 1, none⟩ b1).setCell ⟨R0, 2, none⟩ b2).setCell ⟨R0, 3, none⟩ b3).setCell ⟨R0, 4, none⟩ b4).setCell ⟨R0, 5, none⟩ b5).setCell ⟨R0, 6, none⟩ b6).setCell ⟨R0, 7, none⟩ b7).setCell ⟨R0, 8, none⟩ b8).setCell ⟨R0, 9, none⟩ b9).setCell ⟨R0, 10, none⟩ b10).setCell ⟨R0, 11, none⟩ b11) = W5) : Rx p w R u W5 := e ▸ h _ _ _ _ _ _ _ _ _ _ _ _
theorem cells12 {w2 W5 : World} {R0 : Nat} {T : TypeId} {a0 a1 a2 a3 a4 a5 a6 a7 a8 a9 a10 a11 b0 b1 b2 b3 b4 b5 b6 b7 b8 b9 b10 b11 : Value} (h : w2.heap[R0]? = some (.cells #[a0, a1, a2, a3, a4, a5, a6, a7, a8, a9, a10, a11] T (0, 0))) (e : ((((((((((((w2.setCell ⟨R0, 0, none⟩ b0).setCell ⟨R0, 1, none⟩ b1).setCell ⟨R0, 2, none⟩ b2).setCell ⟨R0, 3, none⟩ b3).setCell ⟨R0, 4, none⟩ b4).setCell ⟨R0, 5, none⟩ b5).setCell ⟨R0, 6, none⟩ b6).setCell ⟨R0, 7, none⟩ b7).setCell ⟨R0, 8, none⟩ b8).setCell ⟨R0, 9, none⟩ b9).setCell ⟨R0, 10, none⟩ b10).setCell ⟨R0, 11, none⟩ b11) = W5) : ∀ i, W5.cell? ⟨R0, i, none⟩ = (#[b0, b1, b2, b3, b4, b5, b6, b7, b8, b9, b10, b11] : Array Value)[i]? := by rw [← e]; exact Rg.blk_cells (set12 h _ _ _ _ _ _ _ _ _ _ _ _)
theorem LfRel.done {ops : List (ByteArray × Int)} {k p : Nat} {q : Pa Ex} {w : World} {R0 E : Nat} {R : Ex × Ps} {wr w2 : World} {r : XR} {x x0 : Ex} {s : Ps} {n : Nat}
    (hpw : p < w.heap.size) (hR0 : R0 = w.heap.size)
    (hx : Ex.At (fun b => w.heap.size ≤ b ∧ b ≠ E ∧ b ≠ R0) wr x r) (hxs : s.good = true → x = x0) (hR : lefts ops k q n x0 s = R) (hgo : Go1 p w wr)
    (hf : ops.find? (fun o => s.is k o.1) = none) (hg2 : Go1 p wr w2) (hps : PS p w2 s) (b0 b1 b2 b3 b4 b5 b6 b7 b8 b9 b10 b11 : Value) :
    Rx p w R r.val (((((((((((((w2.setCell ⟨R0, 0, none⟩ b0).setCell ⟨R0, 1, none⟩ b1).setCell ⟨R0, 2, none⟩ b2).setCell ⟨R0, 3, none⟩ b3).setCell ⟨R0, 4, none⟩ b4).setCell ⟨R0, 5, none⟩ b5).setCell ⟨R0, 6, none⟩ b6).setCell ⟨R0, 7, none⟩ b7).setCell ⟨R0, 8, none⟩ b8).setCell ⟨R0, 9, none⟩ b9).setCell ⟨R0, 10, none⟩ b10).setCell ⟨R0, 11, none⟩ b11)) := by
  have hR' : R = (x0, s) := by
    rw [← hR]
    cases n with
    | zero => rfl
    | succ n => unfold lefts; rw [hf]
  subst hR'
  exact give hpw hR0 ((hx.of hg2.size (fun b hb hl => hg2.get hl (by have := hb.1; omega))).mono (fun b _ hb => ⟨hb.1, hb.2.2⟩)) hps (hgo.trans hg2) hxs _ _ _ _ _ _ _ _ _ _ _ _
end Go.Proofs.Ytaogpifcfmjcbaa
end
section
namespace Go.Proofs.Ytaogpifcfmjcbaa
open Go.RowKit
set_option linter.unusedVariables false
def Moved (v : Value) (w : World) (v' : Value) : Prop := v'.ownBlock = v.ownBlock ∨ ∀ g, v'.ownBlock = some g → w.heap.size ≤ g
theorem append_one {P : Program} (w : World) {ops : Array Oper} {rest : List Oper} {o : Oper} {a : Act} {Q : Exit → Act → World → Prop}
    (hg : o.guard = none) (s x : Operand) (t : TypeId) (hop : o.op = Op.call { callee := Callee.builtin Builtin.append, args := #[s, x], argTypes := #[t, t] })
    (base : Nat) (e : TypeId) (i : TypeInfo) (z : Value) (size bytes : Nat) (h1 : P.underlying t = some (.slice e)) (h2 : P.info? e = some i) (h3 : i.zero = some z) (h4 : i.size = size) (h5 : i.bytes = bytes) (h6 : z.cells.size = size) (h7 : 0 < size)
    (v : Value) (k : Nat) (xs : List Value) (hs : a.eval s = v) (hown : w.ownsRow base e size v k xs) (ad : Addr) (c : Nat) (news : List Value) (hx : a.eval x = .slice (some ad) 1 c) (hn : news.length = size)
    (hc : ∀ j u, news[j]? = some u → w.cell? (ad.add j) = some u) (h1c : ∀ u ∈ news, u.oneCell' = true) (b1 : k + 1 ≤ maxLen) (b2 : (k + 1) * bytes ≤ 140737488355328) (b3 : base ≤ w.heap.size)
    (hK : ∀ v' w', w'.ownsRow base e size v' (k + 1) (xs ++ news) → Gz v w w' → Moved v w v' → wpList P ops Q rest (a.put o.dst v') w') :
    wpList P ops Q (o :: rest) a w := by
  have hn' : news.length = 1 * size := by rw [hn, Nat.one_mul]
  have weak : ∀ {w' : World}, w.grownBy w' none → Gz v w w' := fun h => ⟨h.os, h.tape, h.output, h.size, fun i hi _ => h.block i hi (by simp)⟩
  rcases hown.2 with ⟨rfl, h0⟩ | ⟨g, cap, cur, rfl, hb, hgh, hkc, hcm, hcs, htk⟩
  · subst h0
    refine wpList_append_grows w hg s x t hop e i z size bytes h1 h2 h3 h4 h5 h6 h7 none 0 0 [] hs (fun _ => ⟨rfl, rfl⟩) (by simp) (fun b hb => by cases hb) ad 1 c news hx hn' hc h1c (by omega) b1 b2 ?_
    intro v' w' r1 r2
    have hxs : xs = [] := List.eq_nil_of_length_eq_zero (by rw [hown.1]; simp)
    subst hxs
    exact hK v' w' (own_mono r1 b3) (weak r2) (.inr fun g e => (World.ownsRow.lt r1 g e).1)
  · by_cases hr : k + 1 ≤ cap
    · refine wpList_append_fits w hg s x t hop base e i size h1 h2 h4 g k cap xs hs hown ad 1 c news hx hn' hc h1c hr ?_
      intro w' r1 r2
      exact hK _ w' r1 r2 (.inl rfl)
    · refine wpList_append_grows w hg s x t hop e i z size bytes h1 h2 h3 h4 h5 h6 h7 (some ⟨g, 0, none⟩) k cap xs hs (fun e => by cases e) hown.1 (fun b hb j u hj => ?_) ad 1 c news hx hn' hc h1c (by omega) b1 b2 ?_
      · cases hb
        exact hown.cells (g := g) rfl j u hj
      · intro v' w' r1 r2
        exact hK v' w' (own_mono r1 b3) (weak r2) (.inr fun g e => (World.ownsRow.lt r1 g e).1)
end Go.Proofs.Ytaogpifcfmjcbaa
end
section
namespace Go.Proofs.Ytaogpifcfmjcbaa
open Go.RowKit
set_option linter.unusedSimpArgs false
set_option linter.unusedVariables false
attribute [local go_sem] Rg.leads_value Rg.leads_skip Rg.leads_enter Rg.brings_value Rg.brings_skip Rg.brings_enter Rg.bringsG_value Rg.bringsG_enter Rg.once_normal Rg.once_exit Rg.once_ret Rg.once_panic Rg.once_goto Rg.bringsS_value Rg.bringsS_skip Rg.bringsS_enter Rg.still_value Rg.still_skip Rg.still_enter
theorem own_new {α : Type} {f : α → List Value} {n base : Nat} {e : TypeId} (hE : Enc f n) (w : World) (x : α) (hb : base ≤ w.heap.size) {cs : Array Value} (hcs : cs.toList = f x) : (w.alloc (.cells cs e)).ownsRow base e n (.slice (some ⟨w.heap.size, 0, none⟩) 1 1) [x].length (cellsF f [x]) := by
  have h1 : cellsF f [x] = f x := by simp [cellsF]
  rw [h1]
  refine ⟨by rw [hE.len]; simp, .inr ⟨w.heap.size, 1, cs, rfl, hb, alloc_at _ _, Nat.le_refl _, by decide, ?_, ?_⟩⟩
  · have := congrArg List.length hcs
    rw [hE.len] at this
    simpa using this
  · rw [hcs, List.take_of_length_le (by rw [hE.len]; simp)]
theorem own_go {w w' : World} {base n m p : Nat} {e : TypeId} {v : Value} {zs : List Value} (h : w.ownsRow base e n v m zs) (hg : Go1 p w w') (hp : p < base) : w'.ownsRow base e n v m zs :=
  h.kept hg (.inr (fun e' => by have := (World.ownsRow.lt h p (by simpa using e')).1; omega))
theorem Go1.trans' {p : Nat} {a b c : World} {v : Value} (h : Go1 p a b) (k : Gz v b c) (hE : ∀ g, v.ownBlock = some g → a.heap.size ≤ g) : Go1 p a c :=
  ⟨k.os.trans h.os, k.tape.trans h.tape, k.output.trans h.output, Nat.le_trans h.size k.size, fun i hi hne => (k.block i (Nat.lt_of_lt_of_le hi h.size) (fun e => by have := hE i e.symm; omega)).trans (h.block i hi hne)⟩
def headS (q : Pa Ex) (n : Nat) (l : List Ex) (s : Ps) : List Ex × Ps := if s.is 4 ⟨#[44]⟩ then seps q n l s.step else (l, s)
def SxRel (q : Pa Ex) (p N : Nat) (w : World) (R : List Ex × Ps) (v : Value) (wr : World) : Prop := ∃ rs xs l0 s n, wr.ownsRow w.heap.size 32 12 v (List.length rs) (cellsF xF rs) ∧ 0 < List.length rs ∧
  Exs.At (fun b => w.heap.size ≤ b ∧ v.ownBlock ≠ some b) wr xs rs ∧ (s.good = true → xs = l0) ∧ headS q n l0 s = R ∧ s.size ≤ n ∧ List.length rs + s.size ≤ N + 1 ∧ PS p wr s ∧ Go1 p w wr
theorem SxRel.start {q : Pa Ex} {p N : Nat} {w w1 : World} {s : Ps} {R : List Ex × Ps} {r : XR} {x : Ex} (hpw : p < w.heap.size)
    (hx : Ex.At (Nw w) w1 x r) (hps : PS p w1 (q s).2) (hgo : Go1 p w w1) (hgd : (q s).2.good = true → x = (q s).1) (hn : NI q) (hsN : s.size ≤ N) (hR : sep q s = R) :
    SxRel q p N w R (.slice (some ⟨w1.heap.size, 0, none⟩) 1 1) (w1.alloc (.cells r.cells 32)) := by
  have hz := hgo.size
  have hG := (Gr.refl w1).alloc (.cells r.cells 32)
  refine ⟨[r], [x], [(q s).1], (q s).2, s.size, own_new xE w1 r hz rfl, by simp, Exs.At.cons ?_ Exs.At.nil, fun h => by rw [hgd h], ?_, hn s, ?_, hps.keep hG, hgo.block2 hG⟩
  · refine (hx.mono (fun b hb hs => ?_)).of hG.size (fun b _ hb => hG.block b hb)
    refine ⟨hs, fun e => ?_⟩
    simp [Value.ownBlock] at e
    omega
  · rw [← hR]
    unfold sep
    simp only [seps]
    rfl
  · have := hn s
    simp
    omega
theorem SxRel.next {q : Pa Ex} {p N : Nat} {w : World} {R : List Ex × Ps} {v v' : Value} {wr w2 w3 w5 : World} {rs : List XR} {xs l0 : List Ex} {s : Ps} {n : Nat} {ry : XR} {y : Ex} {cs : Array Value}
    (hpw : p < w.heap.size) (hown : wr.ownsRow w.heap.size 32 12 v rs.length (cellsF xF rs)) (h0 : 0 < rs.length) (hxs : Exs.At (fun b => w.heap.size ≤ b ∧ v.ownBlock ≠ some b) wr xs rs) (hl : s.good = true → xs = l0) (hR : headS q n l0 s = R) (hsn : s.size ≤ n) (hsN : rs.length + s.size ≤ N + 1) (hgo : Go1 p w wr)
    (hB : s.is 4 ⟨#[44]⟩ = true) (hn : NI q) (hg2 : Go1 p wr w2) (hy : Ex.At (Nw w2) w3 y ry) (hps : PS p w3 (q s.step).2) (hg3 : Go1 p w2 w3) (hyg : (q s.step).2.good = true → y = (q s.step).1)
    (hown' : w5.ownsRow w.heap.size 32 12 v' (rs.length + 1) (cellsF xF rs ++ xF ry)) (hz5 : Gz v (w3.alloc (.cells cs 32)) w5) (hm : Moved v (w3.alloc (.cells cs 32)) v') :
    SxRel q p N w R v' w5 ∧ lenAt p w5 < s.size := by
  obtain ⟨hs1, hs2, hs3⟩ := is_step hB (by decide)
  have hni := hn s.step
  have hvr : ∀ g, v.ownBlock = some g → w.heap.size ≤ g ∧ g < wr.heap.size := fun g e => World.ownsRow.lt hown g e
  have z2 := hg2.size
  have z3 := hg3.size
  have zz := hgo.size
  have hzz := hz5.size
  simp only [World.size_alloc] at hzz
  have keepB : ∀ b, b < w3.heap.size → v.ownBlock ≠ some b → w5.heap[b]? = w3.heap[b]? := fun b hb hv => by
    rw [hz5.block b (by simp; omega) (fun e => hv e.symm)]
    exact ((Gr.refl w3).alloc _).block b hb
  have hPS : PS p w5 (q s.step).2 := hps.low (by omega) (fun i hi hl => keepB i hl (fun e => by have := hvr i e; omega))
  refine ⟨?_, by rw [lenAt_ps hPS]; omega⟩
  cases n with
  | zero => omega
  | succ n =>
    have hmv : ∀ b, b < w3.heap.size → v.ownBlock ≠ some b → v'.ownBlock ≠ some b := fun b hb hv e => by
      rcases hm with hm | hm
      · rw [hm] at e; exact hv e
      · have := hm b e
        simp at this
        exact absurd hb (by omega)
    refine ⟨rs ++ [ry], xs ++ [y], l0 ++ [(q s.step).1], (q s.step).2, n, by rw [cellsF_snoc, List.length_append]; exact hown', by simp, Exs.At.snoc ?_ ?_, fun h => by rw [hl hs3, hyg h], ?_, by omega, by simp; omega, hPS, ?_⟩
    · refine ((hy.mono (S' := fun b => w.heap.size ≤ b ∧ v.ownBlock ≠ some b ∧ v'.ownBlock ≠ some b) (fun b hb hs => ?_)).of (by omega) (fun b hb hl => keepB b hl hb.2.1)).mono (fun b _ hb => ⟨hb.1, hb.2.2⟩)
      have hs : w2.heap.size ≤ b := hs
      have hne : v.ownBlock ≠ some b := fun e => by have := (hvr b e).2; omega
      exact ⟨by omega, hne, hmv b hb hne⟩
    · refine ((hxs.mono (S' := fun b => w.heap.size ≤ b ∧ v.ownBlock ≠ some b ∧ v'.ownBlock ≠ some b) (fun b hb hs => ⟨hs.1, hs.2, hmv b (by omega) hs.2⟩)).of (by omega) (fun b hb hl => ?_)).mono (fun b _ hb => ⟨hb.1, hb.2.2⟩)
      rw [keepB b (by omega) hb.2.1, hg3.get (by omega) (by omega), hg2.get hl (by omega)]
    · rw [← hR]
      unfold headS
      rw [if_pos hB]
      simp only [seps]
      try rfl
    · refine (((hgo.trans hg2).trans hg3).block2 ((Gr.refl w3).alloc _)).trans' hz5 (fun g e => (hvr g e).1)
theorem own_row {w : World} {base : Nat} {S : Nat → Prop} {v : Value} {rs : List XR} (h : w.ownsRow base 32 12 v rs.length (cellsF xF rs)) (hS : ∀ b, base ≤ b → v.ownBlock = some b → S b) : ∃ oa cap, v = .slice oa rs.length cap ∧ rs.length ≤ cap ∧ XRow S w oa rs ∧ (oa = none → cap = 0) := by
  have hnil : ∀ cap n, v = .slice none n cap → cap = 0 := fun cap n e => by
    rcases h.2 with ⟨rfl, _⟩ | ⟨g, cap', cur, rfl, _⟩
    · cases e; rfl
    · cases e
  obtain ⟨oa, c, rfl, hat, hc, hb⟩ := own_at (f := xF) (n := 12) (l := rs) xE h
  refine ⟨oa, c, rfl, hc, ?_, fun e => hnil c _ (by rw [e])⟩
  rcases (hat : AtF xF 12 w oa rs) with h0 | ⟨b, off, e, hl, hr⟩
  · exact .inl h0
  · subst e
    have hf : ∀ j, w.frozen? ⟨b, j, none⟩ = false := by
      rcases h.2 with ⟨e, _⟩ | ⟨g, cap', cur, e, _, hg, _⟩
      · cases e
      · cases e; exact Rg.blk_free hg
    exact .inr ⟨b, off, rfl, hl, hS b (hb b off none rfl) rfl, hf, hr⟩
theorem SxRel.done {q : Pa Ex} {p : Nat} {w : World} {R : List Ex × Ps} {v : Value} {wr w2 : World} {rs : List XR} {xs l0 : List Ex} {s : Ps} {n : Nat}
    (hpw : p < w.heap.size) (hown : wr.ownsRow w.heap.size 32 12 v rs.length (cellsF xF rs)) (hxs : Exs.At (fun b => w.heap.size ≤ b ∧ v.ownBlock ≠ some b) wr xs rs) (hl : s.good = true → xs = l0) (hR : headS q n l0 s = R) (hgo : Go1 p w wr)
    (hB : s.is 4 ⟨#[44]⟩ = false) (hg2 : Go1 p wr w2) (hps : PS p w2 s) (hlen1 : rs.length ≤ 1000001) : Rxs p w R v w2 := by
  have hR' : R = (l0, s) := by rw [← hR]; unfold headS; rw [hB]; rfl
  subst hR'
  obtain ⟨oa, cap, rfl, hc, hrow, hnil⟩ := own_row (S := Nw w) (own_go hown hg2 hpw) (fun b hb _ => hb)
  have hlen := hxs.len
  refine ⟨oa, rs.length, cap, xs, rfl, ⟨hlen, ⟨hc, by omega⟩, rs, hlen, hrow, ?_⟩, hps, hgo.trans hg2, hlen1, hnil, hl⟩
  exact (hxs.of hg2.size (fun b hb hl => hg2.get hl (by have := hb.1; omega))).mono (fun b _ hb => hb.1)
set_option maxHeartbeats 4000000 in
set_option maxRecDepth 100000 in
theorem exprs_any (q : Pa Ex) (p N : Nat) (hN : N ≤ 1000000) (hq : Rd 18 q p N) (hn : NI q) : Rds 56 (sep q) p N := by
  intro s w hS hsN
  have hpw := hS.lt
  obtain ⟨R, hR⟩ : ∃ R, sep q s = R := ⟨_, rfl⟩
  rw [hR]
  have HR := hid hR
  clear hR
  go_enter Try.func56, Try.ntmps56
  go_wp2_with fail
  refine (hq s _ hS hsN).mono ?_
  rintro e w1 ⟨u, rfl, r, x, rfl, hx, hps, hgo, hgd⟩
  have hst := hid (SxRel.start hpw hx hps hgo hgd hn hsN HR.out)
  clear hx hps hgo hgd HR
  unfold XR.val
  go_wp2_with fail
  generalize Value.agg _ = uu
  generalize hv0 : Value.slice (some ⟨w1.heap.size, 0, none⟩) 1 1 = v0 at *
  go_loopw [3] (fun v wr => SxRel q p N w R v wr) (fun _ wr => lenAt p wr)
  · exact hst.out
  · clear hst hv0
    obtain ⟨rs, xs, l0, s, n, hown, h0, hxs, hl, hR, hsn, hsN, hps, hgo⟩ := hrel
    go_wp2_with fail
    refine (sign_any' p ⟨#[44]⟩ s wr hps).mono ?_
    rintro e w2 ⟨rfl, hps2, hg2⟩
    cases hB : s.is 4 ⟨#[44]⟩ with
    | false =>
      have e2 : (s.may 4 ⟨#[44]⟩).2 = s := by simp [Ps.may, hB]
      rw [e2] at hps2
      have FI := hid (SxRel.done hpw hown hxs hl hR hgo hB hg2 hps2 (by omega))
      clear hps2 hps hgo hg2 hxs hR hl hown hB e2
      go_wp2
      go_ret
      exact ⟨_, rfl, FI.out⟩
    | true =>
      have e2 : (s.may 4 ⟨#[44]⟩).2 = s.step := by simp [Ps.may, hB]
      rw [e2] at hps2
      obtain ⟨hs1, hs2, hs3⟩ := is_step hB (by decide)
      have NX := fun w3 w5 v' ry y cs h1 h2 h3 h4 h5 h6 h7 => SxRel.next (w3 := w3) (w5 := w5) (v' := v') (ry := ry) (y := y) (cs := cs) hpw hown h0 hxs hl hR hsn hsN hgo hB hn hg2 h1 h2 h3 h4 h5 h6 h7
      have HNX := hid NX
      have LA : Hid (lenAt p wr = s.size) := hid (lenAt_ps hps)
      have HOW := hid (own_go hown hg2 hpw)
      have hzz := hgo.size
      have hzz2 := hg2.size
      clear NX hps hxs hR hgo hg2 hl hB e2 hown
      go_wp2_with fail
      refine (hq s.step w2 hps2 (by omega)).mono ?_
      rintro e w3 ⟨u, rfl, ry, y, rfl, hy, hpy, hgy, hyg⟩
      have NX2 := hid (fun w5 v' cs => HNX.out w3 w5 v' ry y cs hy hpy hgy hyg)
      have HO3 := hid (own_go HOW.out hgy hpw)
      have hz3 := hgy.size
      clear hy hpy hgy hyg HNX HOW hps2
      unfold XR.val
      obtain ⟨i0, hi0, hz0, hz1, hz2⟩ := info_parts x_info
      have HOA : Hid (∀ o, (w3.alloc o).ownsRow w.heap.size 32 12 u3 (List.length rs) (cellsF xF rs)) := hid (fun o => own_keep HO3.out ((Gr.refl w3).alloc o))
      go_wp2_with (at_builtin; refine append_one _ rfl _ _ 26 rfl w.heap.size 32 i0 _ 12 128 Try.underlying26 hi0 hz0 hz1 hz2 rfl (by decide) u3 (List.length rs) (cellsF xF rs) rfl (HOA.out _) ⟨w3.heap.size, 0, none⟩ 1 (xF ry) rfl rfl ?ma1 ?ma2 ?ma3 ?ma4 ?ma5 ?_)
      case ma1 =>
        intro j u hu
        rw [addN, Nat.zero_add, Rg.blk_cells (alloc_at _ _)]
        simpa [xF] using hu
      case ma2 => exact xE.one _
      case ma3 => unfold maxLen; omega
      case ma4 => omega
      case ma5 => simp; omega
      intro v' w5 hown5 hz5 hmv
      obtain ⟨hx1, hx2⟩ := NX2.out w5 v' _ hown5 hz5 hmv
      have HX := hid hx1
      clear hx1 NX2 hown5 hz5 hmv HO3 HOA
      go_wp2
      exact ⟨HX.out, by rw [LA.out]; exact hx2⟩
end Go.Proofs.Ytaogpifcfmjcbaa
end
section
namespace Go.Proofs.Ytaogpifcfmjcbaa
set_option linter.unusedVariables false
def Ps.deep : Ps → Option Nat
  | .ok _ d => some d
  | .bad _ _ => none
def As (s t : Ps) : Prop := t.deep = none ∨ t.deep = s.deep
theorem As.refl (s : Ps) : As s s := .inr rfl
theorem As.trans {s t u : Ps} (h : As t u) (k : As s t) : As s u := by
  rcases h with h | h
  · exact .inl h
  · rcases k with k | k
    · exact .inl (h.trans k)
    · exact .inr (h.trans k)
theorem as_step (s : Ps) : As s s.step := by
  match s with
  | .ok (t :: r) d => simp only [Ps.step]; split <;> exact .inr rfl
  | .ok [] d => exact .refl _
  | .bad e a => exact .refl _
theorem as_fail (e : Int) (s : Ps) : As s (s.fail e) := by
  match s with
  | .ok (t :: r) d => exact .inl rfl
  | .ok [] d => exact .inl rfl
  | .bad e a => exact .refl _
theorem as_may (k : Nat) (c : ByteArray) (s : Ps) : As s (s.may k c).2 := by
  unfold Ps.may
  split
  · exact as_step s
  · exact .refl _
theorem as_need (k : Nat) (c : ByteArray) (s : Ps) : As s (s.need k c) := by
  unfold Ps.need
  split
  · exact as_step s
  · exact as_fail _ s
theorem as_name (s : Ps) : As s s.name.2 := by
  unfold Ps.name
  split
  · exact as_step s
  · exact as_fail _ s
theorem as_down {s : Ps} (h : s.down.good = false) : As s s.down := by
  match s, h with
  | .ok l d, h =>
    simp only [Ps.down] at h ⊢
    split
    · exact as_fail _ _
    · rename_i hd; rw [if_neg hd] at h; cases h
  | .bad e a, h => exact .refl _
theorem down_deep {s t : Ps} (h : s.down.good = true) (k : As s.down t) : (∀ l d, t = .ok l d → 1 ≤ d) ∧ As s t.up := by
  match s, h with
  | .ok l d, h =>
    simp only [Ps.down] at h k
    split at h
    · cases l <;> cases h
    · rename_i hd
      rw [if_neg hd] at k
      match t, k with
      | .ok l' d', k =>
        rcases k with k | k
        · cases k
        · have e : d' = d + 1 := by simpa [Ps.deep] using k
          subst e
          refine ⟨fun l2 d2 e2 => by cases e2; omega, .inr rfl⟩
      | .bad e a, k => exact ⟨fun l2 d2 e2 => (by cases e2), .inl rfl⟩
def DP {α : Type} (p : Pa α) : Prop := ∀ s, As s (p s).2
theorem dp_lefts {ops : List (ByteArray × Int)} {k : Nat} {p : Pa Ex} (h : DP p) : ∀ n e s, As s (lefts ops k p n e s).2
  | 0, e, s => .refl _
  | n + 1, e, s => by
    unfold lefts
    split
    · exact As.trans (dp_lefts h n _ _) (As.trans (h _) (as_step s))
    · exact .refl _
theorem dp_left {ops : List (ByteArray × Int)} {k : Nat} {p : Pa Ex} (h : DP p) : DP (left ops k p) := fun s => As.trans (dp_lefts h _ _ _) (h s)
theorem dp_ahead {k : Nat} {c : ByteArray} {op : Int} {p : Pa Ex} (h : DP p) : ∀ n s, As s (ahead k c op p n s).2
  | 0, s => h s
  | n + 1, s => by
    unfold ahead
    split
    · split
      · rename_i hd
        exact (down_deep hd (As.trans (dp_ahead h n _) (as_step _))).2
      · rename_i hd
        exact as_down (by simpa using hd)
    · exact h s
theorem dp_seps {α : Type} {p : Pa α} (h : DP p) : ∀ n l s, As s (seps p n l s).2
  | 0, l, s => .refl _
  | n + 1, l, s => by
    simp only [seps]
    split
    · exact As.trans (dp_seps h n _ _) (As.trans (as_step _) (h s))
    · exact h s
theorem dp_sep {α : Type} {p : Pa α} (h : DP p) : DP (sep p) := fun s => dp_seps h _ _ s
theorem dp_list {E : Pa Ex} (h : DP E) : DP (listS E) := fun s => by
  unfold listS
  split
  · split
    · rename_i hd
      exact (down_deep hd (As.trans (as_need _ _ _) (As.trans (dp_sep h _) (as_step _)))).2
    · rename_i hd
      exact as_down (by simpa using hd)
  · exact as_fail _ s
theorem dp_compareT {p E : Pa Ex} (hp : DP p) (hE : DP E) (a : Ex) (s : Ps) : As s (compareT p E a s).2 := by
  unfold compareT
  split
  · exact As.trans (hp _) (as_step s)
  · split
    · exact As.trans (as_need _ _ _) (As.trans (as_may _ _ _) (as_step s))
    · simp only
      split
      · exact As.trans (dp_list hE _) (As.trans (as_step _) (as_may _ _ s))
      · split
        · simp only [betweens]
          exact As.trans (hp _) (As.trans (as_need _ _ _) (As.trans (hp _) (As.trans (as_step _) (as_may _ _ s))))
        · split
          · exact As.trans (as_fail _ _) (as_may _ _ s)
          · exact as_may _ _ s
theorem dp_compares {p E : Pa Ex} (hp : DP p) (hE : DP E) : DP (compares p E) := fun s => As.trans (dp_compareT hp hE _ _) (hp s)
theorem dp_call {E : Pa Ex} (hE : DP E) (nm : List UInt8) (s : Ps) : As s (callS E nm s).2 := by
  unfold callS
  split
  · rename_i hd
    simp only
    have h0 := As.trans (as_need 4 ⟨#[40]⟩ s.down.step) (as_step _)
    split
    · exact (down_deep hd (As.trans (as_need _ _ _) (As.trans (as_step _) h0))).2
    · split
      · exact (down_deep hd (As.trans (as_need _ _ _) (As.trans (hE _) h0))).2
      · exact (down_deep hd (As.trans (as_need _ _ _) (As.trans (dp_sep hE _) h0))).2
  · rename_i hd
    exact as_down (by simpa using hd)
theorem dp_nameS : DP nameS := fun s => by
  unfold nameS
  simp only
  split
  · exact As.trans (as_name _) (As.trans (as_step _) (as_name s))
  · exact as_name s
theorem dp_single {E : Pa Ex} (hE : DP E) : DP (single E) := fun s => by
  unfold single
  split
  · exact as_step s
  split
  · exact as_step s
  split
  · exact as_step s
  split
  · exact as_step s
  split
  · exact as_step s
  split
  · split
    · rename_i hd
      exact (down_deep hd (As.trans (as_need _ _ _) (As.trans (hE _) (as_step _)))).2
    · rename_i hd
      exact as_down (by simpa using hd)
  split
  · exact dp_call hE _ s
  · exact dp_nameS s
theorem dp_lvl {E : Pa Ex} (hE : DP E) : DP (lvl E) :=
  dp_left (dp_left (fun s => dp_ahead (dp_compares (dp_left (dp_left (fun s => dp_ahead (dp_single hE) _ s))) hE) _ s))
theorem dp_expr : ∀ n, DP (expr n)
  | 0 => dp_lvl (fun s => .refl _)
  | n + 1 => dp_lvl (dp_expr n)
theorem ahead_fuel {k : Nat} {c : ByteArray} {op : Int} {p : Pa Ex} (hk : k ≠ 5) : ∀ (n : Nat) (s : Ps), s.size ≤ n → ahead k c op p n s = ahead k c op p s.size s
  | 0, s, h => by have : s.size = 0 := by omega
                  rw [this]
  | n + 1, s, h => by
    cases hB : s.is k c with
    | false =>
      cases hz : s.size with
      | zero => simp [ahead, hB]
      | succ j => simp [ahead, hB]
    | true =>
      obtain ⟨h1, h2, h3⟩ := is_step hB hk
      cases hz : s.size with
      | zero => omega
      | succ j =>
        unfold ahead
        rw [hB]
        simp only [if_true]
        split
        · rename_i hd
          obtain ⟨d1, d2, d3, d4⟩ := down_good hd
          have hs' : s.down.step.size = j := by
            have := (is_step (s := s.down) (k := k) (c := c) (by rw [d4]; exact hB) hk).1
            omega
          rw [ahead_fuel hk n s.down.step (by omega), ahead_fuel hk j s.down.step (by omega)]
        · rfl
end Go.Proofs.Ytaogpifcfmjcbaa
end
section
namespace Go.Proofs.Ytaogpifcfmjcbaa
open Go.RowKit
set_option linter.unusedSimpArgs false
set_option linter.unusedVariables false
attribute [local go_sem] Rg.leads_value Rg.leads_skip Rg.leads_enter Rg.brings_value Rg.brings_skip Rg.brings_enter Rg.bringsG_value Rg.bringsG_enter Rg.once_normal Rg.once_exit Rg.once_ret Rg.once_panic Rg.once_goto Rg.bringsS_value Rg.bringsS_skip Rg.bringsS_enter Rg.still_value Rg.still_skip Rg.still_enter
theorem rowN {w : World} {rs : List XR} {g : Nat} {cs : Array Value} {T : TypeId} (h : w.heap[g]? = some (.cells cs T (0, 0))) (hcs : cs.toList = cellsF xF rs) : RowF xF 12 w g 0 rs := by
  intro k hk j u hu
  have hj : j < 12 := by rw [← xE.len rs[k]]; exact (List.getElem?_eq_some_iff.1 hu).1
  rw [Rg.blk_cells h, Nat.zero_add, ← Array.getElem?_toList, hcs, xE.cells_get rs k hk j hj]
  exact hu
theorem XRow.mk' {S : Nat → Prop} {w : World} {g : Nat} {rs : List XR} {cs : Array Value} {T : TypeId} (h : w.heap[g]? = some (.cells cs T (0, 0))) (hS : S g) (hr : RowF xF 12 w g 0 rs) : XRow S w (some ⟨g, 0, none⟩) rs := .inr ⟨g, 0, rfl, (Array.getElem?_eq_some_iff.1 h).1, hS, Rg.blk_free h, hr⟩
theorem formN {S : Nat → Prop} {w : World} {hd : Hd} {g cap : Nat} {rs : List XR} {ys : List Ex} {cs : Array Value} {T : TypeId} (hS : S g) (h : w.heap[g]? = some (.cells cs T (0, 0))) (hcs : cs.toList = cellsF xF rs) (hy : Exs.At S w ys rs) (hc : Fit rs.length cap) : Ex.At S w (.mk hd ys) ⟨hd, some ⟨g, 0, none⟩, rs.length, cap⟩ := by
  rw [Ex.At.list]
  exact ⟨rfl, hy.len, hc, rs, hy.len, XRow.mk' h hS (rowN h hcs), hy⟩
theorem formZ {S : Nat → Prop} {w : World} {hd : Hd} : Ex.At S w (.mk hd []) ⟨hd, none, 0, 0⟩ := by
  rw [Ex.At.list]
  exact ⟨rfl, rfl, fit_le 0 (by decide), [], rfl, .inl rfl, Exs.At.nil⟩
theorem ahead_no {k : Nat} {c : ByteArray} {op : Int} {q : Pa Ex} {s : Ps} (h : s.is k c = false) (n : Nat) : ahead k c op q n s = q s := by
  cases n with
  | zero => rfl
  | succ n => unfold ahead; rw [h]; rfl
theorem ahead_yes {k : Nat} {c : ByteArray} {op : Int} {q : Pa Ex} {s : Ps} (hk : k ≠ 5) (h : s.is k c = true) (hd : s.down.good = true) : ahead k c op q s.size s = (let q := ahead k c op q s.down.step.size s.down.step; (tre op [q.1], q.2.up)) := by
  have h1 := (is_step h hk).1
  cases hz : s.size with
  | zero => omega
  | succ j =>
    conv => lhs; unfold ahead
    rw [h, hd]
    simp only [if_true]
    obtain ⟨d1, d2, d3, d4⟩ := down_good hd
    have := (is_step (s := s.down) (k := k) (c := c) (by rw [d4]; exact h) hk).1
    rw [ahead_fuel hk j s.down.step (by omega)]
theorem ahead_full {k : Nat} {c : ByteArray} {op : Int} {q : Pa Ex} {s : Ps} (hk : k ≠ 5) (h : s.is k c = true) (hd : s.down.good = false) : ahead k c op q s.size s = (noEx, s.down) := by
  have h1 := (is_step h hk).1
  cases hz : s.size with
  | zero => omega
  | succ j =>
    conv => lhs; unfold ahead
    rw [h, hd]
    rfl
set_option maxHeartbeats 4000000 in
set_option maxRecDepth 100000 in
theorem not_0 (q : Pa Ex) (p N : Nat) (hq : Rd 68 q p N) (s : Ps) (w : World) (hS : PS p w s) (hsN : s.size ≤ N) (hB : s.is 1 ⟨#[110, 111, 116]⟩ = false) : Calls Try.prog 62 #[.pointer (some ⟨p, 0, none⟩)] w (Px p w (nots q s)) := by
  have hpw := hS.lt
  have hG := fun o => (Gr.refl w).alloc o
  have hS0 := fun o => hS.keep (hG o)
  have e1 : nots q s = q s := ahead_no hB _
  rw [e1]
  go_enter Try.func62, Try.ntmps62
  go_wp2_with fail
  refine (is1_any p ⟨#[110, 111, 116]⟩ s _ (hS0 _)).mono ?_
  rintro e w1 ⟨rfl, rfl⟩
  rw [hB]
  go_wp2_with fail
  refine (hq s _ (hS0 _) hsN).mono ?_
  rintro e w2 ⟨u, rfl, r, x, rfl, hx, hps, hgo, hgd⟩
  have hz2 := hgo.size
  simp only [World.size_alloc] at hz2
  have h02 : w2.heap[w.heap.size]? = _ := (hgo.get (by simp) (by omega)).trans (alloc_at _ _)
  have FI := hid (give hpw rfl (hx.mono (S' := fun b => w.heap.size ≤ b ∧ b ≠ w.heap.size) (fun b hb hs => by simp only [Nw, World.size_alloc] at hs; exact ⟨by omega, by omega⟩)) hps ((Go1.of (hG _)).trans hgo) hgd)
  have c0 := Rg.blk_cells h02
  have f0 := Rg.blk_free h02
  clear hx hps hgo hgd hS0 hG
  unfold XR.val
  go_wp2
  (try change bodyPost _ _ _ _ _ _)
  generalize hW5 : World.setCell _ _ _ = W5
  have hT := cells12 h02 hW5
  have hF := Rx.at12 FI.out hW5
  clear hW5 h02 FI
  refine bodyPost_ret (v := XR.val r) (by simp [results, Try.results62, go_sem, XR.val, nul, hT]; try rfl) rfl ⟨_, rfl, hF⟩
set_option maxHeartbeats 4000000 in
set_option maxRecDepth 100000 in
theorem not_full (q : Pa Ex) (p : Nat) (s : Ps) (w : World) (hS : PS p w s) (hB : s.is 1 ⟨#[110, 111, 116]⟩ = true) (hD : s.down.good = false) : Calls Try.prog 62 #[.pointer (some ⟨p, 0, none⟩)] w (Px p w (nots q s)) := by
  have hpw := hS.lt
  have hG := fun o => (Gr.refl w).alloc o
  have hS0 := fun o => hS.keep (hG o)
  have e1 : nots q s = (noEx, s.down) := ahead_full (by decide) hB hD
  rw [e1]
  obtain ⟨_, _, hgood⟩ := is_step hB (by decide)
  go_enter Try.func62, Try.ntmps62
  go_wp2_with fail
  refine (is1_any p ⟨#[110, 111, 116]⟩ s _ (hS0 _)).mono ?_
  rintro e w1 ⟨rfl, rfl⟩
  rw [hB]
  go_wp2_with fail
  refine (down_any p s _ (hS0 _) hgood).mono ?_
  rintro e w2 ⟨rfl, hps, hgo⟩
  rw [hD]
  have hz2 := hgo.size
  simp only [World.size_alloc] at hz2
  have h02 : w2.heap[w.heap.size]? = _ := (hgo.get (by simp) (by omega)).trans (alloc_at _ _)
  have FI : Hid (∀ b0 b1 b2 b3 b4 b5 b6 b7 b8 b9 b10 b11, Rx p w (noEx, s.down) (XR.val ⟨{ op := 0 }, none, 0, 0⟩) _) := hid (give hpw rfl (formZ (S := fun b => w.heap.size ≤ b ∧ b ≠ w.heap.size)) hps ((Go1.of (hG _)).trans hgo) (fun _ => rfl))
  have c0 := Rg.blk_cells h02
  have f0 := Rg.blk_free h02
  clear hps hgo hS0 hG
  go_wp2
  (try change bodyPost _ _ _ _ _ _)
  generalize hW5 : World.setCell _ _ _ = W5
  have hT := cells12 h02 hW5
  have hF := Rx.at12 FI.out hW5
  clear hW5 h02 FI
  refine bodyPost_ret (v := XR.val ⟨{ op := 0 }, none, 0, 0⟩) (by simp [results, Try.results62, go_sem, XR.val, nul, hT]; try rfl) rfl ⟨_, rfl, hF⟩
set_option maxHeartbeats 4000000 in
set_option maxRecDepth 100000 in
theorem not_1 (q : Pa Ex) (hdp : DP q) (p : Nat) (s : Ps) (w : World) (hS : PS p w s) (hB : s.is 1 ⟨#[110, 111, 116]⟩ = true) (hD : s.down.good = true) (hrec : ∀ w', PS p w' s.down.step → Calls Try.prog 62 #[.pointer (some ⟨p, 0, none⟩)] w' (Px p w' (nots q s.down.step))) : Calls Try.prog 62 #[.pointer (some ⟨p, 0, none⟩)] w (Px p w (nots q s)) := by
  have hpw := hS.lt
  have hG := fun o => (Gr.refl w).alloc o
  have hS0 := fun o => hS.keep (hG o)
  have e1 : nots q s = (tre 8 [(nots q s.down.step).1], (nots q s.down.step).2.up) := ahead_yes (by decide) hB hD
  rw [e1]
  obtain ⟨d1, d2, d3, d4⟩ := down_good hD
  have hup : Hid (∀ l d, (nots q s.down.step).2 = .ok l d → 1 ≤ d) := hid (down_deep hD (As.trans (dp_ahead hdp s.down.step.size s.down.step : As s.down.step (nots q s.down.step).2) (as_step s.down))).1
  obtain ⟨_, _, hgood⟩ := is_step hB (by decide)
  have hk5 : s.down.headK ≠ 5 := by rw [(is_head (s := s.down) (k := 1) (c := ⟨#[110, 111, 116]⟩) (by rw [d4]; exact hB)).2.1]; decide
  generalize hQ : nots q s.down.step = Q at *
  go_enter Try.func62, Try.ntmps62
  go_wp2_with fail
  refine (is1_any p ⟨#[110, 111, 116]⟩ s _ (hS0 _)).mono ?_
  rintro e w1 ⟨rfl, rfl⟩
  rw [hB]
  go_wp2_with fail
  refine (down_any p s _ (hS0 _) hgood).mono ?_
  rintro e w2 ⟨rfl, hps, hgo2⟩
  rw [hD]
  go_wp2_with fail
  refine (step_any p s.down _ hps hk5 hD).mono ?_
  rintro e w3 ⟨rfl, hps3, hgo3⟩
  go_wp2_with fail
  refine (hrec _ hps3).mono ?_
  rintro e w4 ⟨u, rfl, r, x, rfl, hx, hps4, hgo4, hgd⟩
  unfold XR.val
  go_wp2_with fail
  refine (tree_any _ _ _ _ _).mono ?_
  rintro e w5 ⟨rfl, hg5⟩
  unfold XR.val
  have hG4 := fun o => (Gr.refl w4).alloc o
  have hG5 := fun o => (Gr.refl w5).alloc o
  have z2 := hgo2.size
  have z3 := hgo3.size
  have z4 := hgo4.size
  have z5 := hg5.size
  simp only [World.size_alloc] at z2 z5
  have hps5 := fun o => ((hps4.keep (hG4 _)).keep hg5).keep (hG5 o)
  go_wp2_with fail
  refine (up_any p _ _ (hps5 _) hup.out).mono ?_
  rintro e w6 ⟨rfl, hps6, hgo6⟩
  have z6 := hgo6.size
  simp only [World.size_alloc] at z6
  have h06 : w6.heap[w.heap.size]? = some (.cells zeroX 32) := by
    rw [hgo6.get (by simp; omega) (by omega), (hG5 _).block _ (by omega), hg5.block _ (by simp; omega), (hG4 _).block _ (by omega), hgo4.get (by omega) (by omega), hgo3.get (by omega) (by omega), hgo2.get (by simp) (by omega)]
    exact alloc_at _ _
  have hr6 : w6.heap[w4.heap.size]? = some (.cells (XR.cells r) 32) := by
    rw [hgo6.get (by simp; omega) (by omega), (hG5 _).block _ (by omega), hg5.block _ (by simp)]
    exact alloc_at _ _
  have hE6 : w6.heap[w5.heap.size]? = some (.cells (XR.cells ⟨{ op := 8 }, some ⟨w4.heap.size, 0, none⟩, 1, 1⟩) 32) := by
    rw [hgo6.get (by simp) (by omega)]
    exact alloc_at _ _
  have hxx : Ex.At (fun b => w.heap.size ≤ b ∧ b ≠ w.heap.size) w6 (tre 8 [x]) ⟨{ op := 8 }, some ⟨w4.heap.size, 0, none⟩, 1, 1⟩ := by
    refine formN (rs := [r]) ⟨by omega, by omega⟩ hr6 (by simp [cellsF, xF]) (Exs.At.cons ?_ Exs.At.nil) (fit_le _ (by simp))
    refine (hx.of (by omega) (fun b hb hl => ?_)).mono (fun b _ hb => ?_)
    · rw [hgo6.get (by simp; omega) (by have : w3.heap.size ≤ b := hb; omega), (hG5 _).block _ (by omega), hg5.block _ (by simp; omega), (hG4 _).block _ hl]
    · have : w3.heap.size ≤ b := hb
      exact ⟨by omega, by omega⟩
  have hgo : Go1 p w w6 := ((((((Go1.of (hG _)).trans hgo2).trans hgo3).trans hgo4).block2 (hG4 _)).block2 hg5).block2 (hG5 _) |>.trans hgo6
  have FI := hid (give hpw rfl hxx (R := (tre 8 [Q.1], Q.2.up)) hps6 hgo (fun h => by
    have : Q.2.good = true := by cases hq2 : Q.2 with
      | ok l d => rfl
      | bad e a => rw [hq2] at h; cases h
    show tre 8 [x] = tre 8 [Q.1]
    rw [hgd this]))
  have c6 := Rg.blk_cells h06
  have f6 := Rg.blk_free h06
  have cE := Rg.blk_cells hE6
  simp only [XR.cells] at cE
  clear hps hps3 hps4 hps5 hps6 hgo2 hgo3 hgo4 hg5 hgo6 hgo hxx hx hgd hG hG4 hG5 hS0 hr6 hE6 hrec
  go_wp2
  (try change bodyPost _ _ _ _ _ _)
  generalize hW5 : World.setCell _ _ _ = W5
  have hT := cells12 h06 hW5
  have hF := Rx.at12 FI.out hW5
  clear hW5 h06 FI
  refine bodyPost_ret (v := XR.val ⟨{ op := 8 }, some ⟨w4.heap.size, 0, none⟩, 1, 1⟩) (by simp [results, Try.results62, go_sem, XR.val, nul, hT]; try rfl) rfl ⟨_, rfl, hF⟩
theorem not_any (q : Pa Ex) (p N : Nat) (hq : Rd 68 q p N) (hdp : DP q) : ∀ M, M ≤ N → Rd 62 (nots q) p M
  | 0, hM => fun s w hS hs => not_0 q p N hq s w hS (by omega) (by
      cases hB : s.is 1 ⟨#[110, 111, 116]⟩ with
      | false => rfl
      | true => have := (is_step hB (by decide)).1; omega)
  | M + 1, hM => fun s w hS hs => by
    cases hB : s.is 1 ⟨#[110, 111, 116]⟩ with
    | false => exact not_0 q p N hq s w hS (by omega) hB
    | true =>
      cases hD : s.down.good with
      | false => exact not_full q p s w hS hB hD
      | true =>
        refine not_1 q hdp p s w hS hB hD (fun w' hS' => not_any q p N hq hdp M (by omega) _ _ hS' ?_)
        obtain ⟨d1, d2, d3, d4⟩ := down_good hD
        have := (is_step (s := s.down) (k := 1) (c := ⟨#[110, 111, 116]⟩) (by rw [d4]; exact hB) (by decide)).1
        omega
set_option maxHeartbeats 4000000 in
set_option maxRecDepth 100000 in
theorem minus_0 (q : Pa Ex) (p N : Nat) (hq : Rd 85 q p N) (s : Ps) (w : World) (hS : PS p w s) (hsN : s.size ≤ N) (hB : s.is 4 ⟨#[45]⟩ = false) : Calls Try.prog 81 #[.pointer (some ⟨p, 0, none⟩)] w (Px p w (minuses q s)) := by
  have hpw := hS.lt
  have hG := fun o => (Gr.refl w).alloc o
  have hS0 := fun o => hS.keep (hG o)
  have e1 : minuses q s = q s := ahead_no hB _
  rw [e1]
  go_enter Try.func81, Try.ntmps81
  go_wp2_with fail
  refine (is4_any p ⟨#[45]⟩ s _ (hS0 _)).mono ?_
  rintro e w1 ⟨rfl, rfl⟩
  rw [hB]
  go_wp2_with fail
  refine (hq s _ (hS0 _) hsN).mono ?_
  rintro e w2 ⟨u, rfl, r, x, rfl, hx, hps, hgo, hgd⟩
  have hz2 := hgo.size
  simp only [World.size_alloc] at hz2
  have h02 : w2.heap[w.heap.size]? = _ := (hgo.get (by simp) (by omega)).trans (alloc_at _ _)
  have FI := hid (give hpw rfl (hx.mono (S' := fun b => w.heap.size ≤ b ∧ b ≠ w.heap.size) (fun b hb hs => by simp only [Nw, World.size_alloc] at hs; exact ⟨by omega, by omega⟩)) hps ((Go1.of (hG _)).trans hgo) hgd)
  have c0 := Rg.blk_cells h02
  have f0 := Rg.blk_free h02
  clear hx hps hgo hgd hS0 hG
  unfold XR.val
  go_wp2
  (try change bodyPost _ _ _ _ _ _)
  generalize hW5 : World.setCell _ _ _ = W5
  have hT := cells12 h02 hW5
  have hF := Rx.at12 FI.out hW5
  clear hW5 h02 FI
  refine bodyPost_ret (v := XR.val r) (by simp [results, Try.results81, go_sem, XR.val, nul, hT]; try rfl) rfl ⟨_, rfl, hF⟩
set_option maxHeartbeats 4000000 in
set_option maxRecDepth 100000 in
theorem minus_full (q : Pa Ex) (p : Nat) (s : Ps) (w : World) (hS : PS p w s) (hB : s.is 4 ⟨#[45]⟩ = true) (hD : s.down.good = false) : Calls Try.prog 81 #[.pointer (some ⟨p, 0, none⟩)] w (Px p w (minuses q s)) := by
  have hpw := hS.lt
  have hG := fun o => (Gr.refl w).alloc o
  have hS0 := fun o => hS.keep (hG o)
  have e1 : minuses q s = (noEx, s.down) := ahead_full (by decide) hB hD
  rw [e1]
  obtain ⟨_, _, hgood⟩ := is_step hB (by decide)
  go_enter Try.func81, Try.ntmps81
  go_wp2_with fail
  refine (is4_any p ⟨#[45]⟩ s _ (hS0 _)).mono ?_
  rintro e w1 ⟨rfl, rfl⟩
  rw [hB]
  go_wp2_with fail
  refine (down_any p s _ (hS0 _) hgood).mono ?_
  rintro e w2 ⟨rfl, hps, hgo⟩
  rw [hD]
  have hz2 := hgo.size
  simp only [World.size_alloc] at hz2
  have h02 : w2.heap[w.heap.size]? = _ := (hgo.get (by simp) (by omega)).trans (alloc_at _ _)
  have FI : Hid (∀ b0 b1 b2 b3 b4 b5 b6 b7 b8 b9 b10 b11, Rx p w (noEx, s.down) (XR.val ⟨{ op := 0 }, none, 0, 0⟩) _) := hid (give hpw rfl (formZ (S := fun b => w.heap.size ≤ b ∧ b ≠ w.heap.size)) hps ((Go1.of (hG _)).trans hgo) (fun _ => rfl))
  have c0 := Rg.blk_cells h02
  have f0 := Rg.blk_free h02
  clear hps hgo hS0 hG
  go_wp2
  (try change bodyPost _ _ _ _ _ _)
  generalize hW5 : World.setCell _ _ _ = W5
  have hT := cells12 h02 hW5
  have hF := Rx.at12 FI.out hW5
  clear hW5 h02 FI
  refine bodyPost_ret (v := XR.val ⟨{ op := 0 }, none, 0, 0⟩) (by simp [results, Try.results81, go_sem, XR.val, nul, hT]; try rfl) rfl ⟨_, rfl, hF⟩
set_option maxHeartbeats 4000000 in
set_option maxRecDepth 100000 in
theorem minus_1 (q : Pa Ex) (hdp : DP q) (p : Nat) (s : Ps) (w : World) (hS : PS p w s) (hB : s.is 4 ⟨#[45]⟩ = true) (hD : s.down.good = true) (hrec : ∀ w', PS p w' s.down.step → Calls Try.prog 81 #[.pointer (some ⟨p, 0, none⟩)] w' (Px p w' (minuses q s.down.step))) : Calls Try.prog 81 #[.pointer (some ⟨p, 0, none⟩)] w (Px p w (minuses q s)) := by
  have hpw := hS.lt
  have hG := fun o => (Gr.refl w).alloc o
  have hS0 := fun o => hS.keep (hG o)
  have e1 : minuses q s = (tre 24 [(minuses q s.down.step).1], (minuses q s.down.step).2.up) := ahead_yes (by decide) hB hD
  rw [e1]
  obtain ⟨d1, d2, d3, d4⟩ := down_good hD
  have hup : Hid (∀ l d, (minuses q s.down.step).2 = .ok l d → 1 ≤ d) := hid (down_deep hD (As.trans (dp_ahead hdp s.down.step.size s.down.step : As s.down.step (minuses q s.down.step).2) (as_step s.down))).1
  obtain ⟨_, _, hgood⟩ := is_step hB (by decide)
  have hk5 : s.down.headK ≠ 5 := by rw [(is_head (s := s.down) (k := 4) (c := ⟨#[45]⟩) (by rw [d4]; exact hB)).2.1]; decide
  generalize hQ : minuses q s.down.step = Q at *
  go_enter Try.func81, Try.ntmps81
  go_wp2_with fail
  refine (is4_any p ⟨#[45]⟩ s _ (hS0 _)).mono ?_
  rintro e w1 ⟨rfl, rfl⟩
  rw [hB]
  go_wp2_with fail
  refine (down_any p s _ (hS0 _) hgood).mono ?_
  rintro e w2 ⟨rfl, hps, hgo2⟩
  rw [hD]
  go_wp2_with fail
  refine (step_any p s.down _ hps hk5 hD).mono ?_
  rintro e w3 ⟨rfl, hps3, hgo3⟩
  go_wp2_with fail
  refine (hrec _ hps3).mono ?_
  rintro e w4 ⟨u, rfl, r, x, rfl, hx, hps4, hgo4, hgd⟩
  unfold XR.val
  go_wp2_with fail
  refine (tree_any _ _ _ _ _).mono ?_
  rintro e w5 ⟨rfl, hg5⟩
  unfold XR.val
  have hG4 := fun o => (Gr.refl w4).alloc o
  have hG5 := fun o => (Gr.refl w5).alloc o
  have z2 := hgo2.size
  have z3 := hgo3.size
  have z4 := hgo4.size
  have z5 := hg5.size
  simp only [World.size_alloc] at z2 z5
  have hps5 := fun o => ((hps4.keep (hG4 _)).keep hg5).keep (hG5 o)
  go_wp2_with fail
  refine (up_any p _ _ (hps5 _) hup.out).mono ?_
  rintro e w6 ⟨rfl, hps6, hgo6⟩
  have z6 := hgo6.size
  simp only [World.size_alloc] at z6
  have h06 : w6.heap[w.heap.size]? = some (.cells zeroX 32) := by
    rw [hgo6.get (by simp; omega) (by omega), (hG5 _).block _ (by omega), hg5.block _ (by simp; omega), (hG4 _).block _ (by omega), hgo4.get (by omega) (by omega), hgo3.get (by omega) (by omega), hgo2.get (by simp) (by omega)]
    exact alloc_at _ _
  have hr6 : w6.heap[w4.heap.size]? = some (.cells (XR.cells r) 32) := by
    rw [hgo6.get (by simp; omega) (by omega), (hG5 _).block _ (by omega), hg5.block _ (by simp)]
    exact alloc_at _ _
  have hE6 : w6.heap[w5.heap.size]? = some (.cells (XR.cells ⟨{ op := 24 }, some ⟨w4.heap.size, 0, none⟩, 1, 1⟩) 32) := by
    rw [hgo6.get (by simp) (by omega)]
    exact alloc_at _ _
  have hxx : Ex.At (fun b => w.heap.size ≤ b ∧ b ≠ w.heap.size) w6 (tre 24 [x]) ⟨{ op := 24 }, some ⟨w4.heap.size, 0, none⟩, 1, 1⟩ := by
    refine formN (rs := [r]) ⟨by omega, by omega⟩ hr6 (by simp [cellsF, xF]) (Exs.At.cons ?_ Exs.At.nil) (fit_le _ (by simp))
    refine (hx.of (by omega) (fun b hb hl => ?_)).mono (fun b _ hb => ?_)
    · rw [hgo6.get (by simp; omega) (by have : w3.heap.size ≤ b := hb; omega), (hG5 _).block _ (by omega), hg5.block _ (by simp; omega), (hG4 _).block _ hl]
    · have : w3.heap.size ≤ b := hb
      exact ⟨by omega, by omega⟩
  have hgo : Go1 p w w6 := ((((((Go1.of (hG _)).trans hgo2).trans hgo3).trans hgo4).block2 (hG4 _)).block2 hg5).block2 (hG5 _) |>.trans hgo6
  have FI := hid (give hpw rfl hxx (R := (tre 24 [Q.1], Q.2.up)) hps6 hgo (fun h => by
    have : Q.2.good = true := by cases hq2 : Q.2 with
      | ok l d => rfl
      | bad e a => rw [hq2] at h; cases h
    show tre 24 [x] = tre 24 [Q.1]
    rw [hgd this]))
  have c6 := Rg.blk_cells h06
  have f6 := Rg.blk_free h06
  have cE := Rg.blk_cells hE6
  simp only [XR.cells] at cE
  clear hps hps3 hps4 hps5 hps6 hgo2 hgo3 hgo4 hg5 hgo6 hgo hxx hx hgd hG hG4 hG5 hS0 hr6 hE6 hrec
  go_wp2
  (try change bodyPost _ _ _ _ _ _)
  generalize hW5 : World.setCell _ _ _ = W5
  have hT := cells12 h06 hW5
  have hF := Rx.at12 FI.out hW5
  clear hW5 h06 FI
  refine bodyPost_ret (v := XR.val ⟨{ op := 24 }, some ⟨w4.heap.size, 0, none⟩, 1, 1⟩) (by simp [results, Try.results81, go_sem, XR.val, nul, hT]; try rfl) rfl ⟨_, rfl, hF⟩
theorem minus_any (q : Pa Ex) (p N : Nat) (hq : Rd 85 q p N) (hdp : DP q) : ∀ M, M ≤ N → Rd 81 (minuses q) p M
  | 0, hM => fun s w hS hs => minus_0 q p N hq s w hS (by omega) (by
      cases hB : s.is 4 ⟨#[45]⟩ with
      | false => rfl
      | true => have := (is_step hB (by decide)).1; omega)
  | M + 1, hM => fun s w hS hs => by
    cases hB : s.is 4 ⟨#[45]⟩ with
    | false => exact minus_0 q p N hq s w hS (by omega) hB
    | true =>
      cases hD : s.down.good with
      | false => exact minus_full q p s w hS hB hD
      | true =>
        refine minus_1 q hdp p s w hS hB hD (fun w' hS' => minus_any q p N hq hdp M (by omega) _ _ hS' ?_)
        obtain ⟨d1, d2, d3, d4⟩ := down_good hD
        have := (is_step (s := s.down) (k := 4) (c := ⟨#[45]⟩) (by rw [d4]; exact hB) (by decide)).1
        omega
end Go.Proofs.Ytaogpifcfmjcbaa
end
section
namespace Go.Proofs.Ytaogpifcfmjcbaa
open Go.RowKit
set_option linter.unusedSimpArgs false
set_option linter.unusedVariables false
attribute [local go_sem] Rg.leads_value Rg.leads_skip Rg.leads_enter Rg.brings_value Rg.brings_skip Rg.brings_enter Rg.bringsG_value Rg.bringsG_enter Rg.once_normal Rg.once_exit Rg.once_ret Rg.once_panic Rg.once_goto Rg.bringsS_value Rg.bringsS_skip Rg.bringsS_enter Rg.still_value Rg.still_skip Rg.still_enter
def RdL (f : Nat) (q : Pa Ex) (p N : Nat) : Prop := ∀ s w, PS p w s → s.size < N → Calls Try.prog f #[.pointer (some ⟨p, 0, none⟩)] w (Px p w (q s))
def RdsL (f : Nat) (q : Pa (List Ex)) (p N : Nat) : Prop := ∀ s w, PS p w s → s.size < N → Calls Try.prog f #[.pointer (some ⟨p, 0, none⟩)] w (Pxs p w (q s))
theorem exprs_less (q : Pa Ex) (p N : Nat) (hN : N ≤ 1000000) (hq : RdL 18 q p N) (hn : NI q) : RdsL 56 (sep q) p N := fun s w hS hs =>
  exprs_any q p s.size (by omega) (fun s' w' hS' hs' => hq s' w' hS' (by omega)) hn s w hS (Nat.le_refl _)
theorem xs_nil {S : Nat → Prop} {w : World} : XsAt S w [] none 0 0 := ⟨rfl, fit_le 0 (by decide), [], rfl, .inl rfl, Exs.At.nil⟩
set_option maxHeartbeats 4000000 in
set_option maxRecDepth 100000 in
theorem list_no (E : Pa Ex) (p : Nat) (s : Ps) (w : World) (hS : PS p w s) (hB : s.is 4 ⟨#[40]⟩ = false) : Calls Try.prog 75 #[.pointer (some ⟨p, 0, none⟩)] w (Pxs p w (listS E s)) := by
  have e1 : listS E s = ([], s.fail 180) := by unfold listS; rw [hB]; rfl
  rw [e1]
  go_enter Try.func75, Try.ntmps75
  go_wp2_with fail
  refine (is4_any p ⟨#[40]⟩ s _ hS).mono ?_
  rintro e w1 ⟨rfl, rfl⟩
  rw [hB]
  go_wp2_with fail
  refine (wrong_any p s _ hS).mono ?_
  rintro e w2 ⟨rfl, hps, hgo⟩
  have FI : Hid (Rxs p w1 ([], s.fail 180) (.slice none 0 0) w2) := hid ⟨none, 0, 0, [], rfl, xs_nil, hps, hgo, by omega, fun _ => rfl, fun _ => rfl⟩
  clear hps hgo
  go_wp2
  go_ret
  exact ⟨_, rfl, FI.out⟩
set_option maxHeartbeats 4000000 in
set_option maxRecDepth 100000 in
theorem list_full (E : Pa Ex) (p : Nat) (s : Ps) (w : World) (hS : PS p w s) (hB : s.is 4 ⟨#[40]⟩ = true) (hD : s.down.good = false) : Calls Try.prog 75 #[.pointer (some ⟨p, 0, none⟩)] w (Pxs p w (listS E s)) := by
  have e1 : listS E s = ([], s.down) := by unfold listS; rw [hB, hD]; rfl
  rw [e1]
  obtain ⟨_, _, hgood⟩ := is_step hB (by decide)
  go_enter Try.func75, Try.ntmps75
  go_wp2_with fail
  refine (is4_any p ⟨#[40]⟩ s _ hS).mono ?_
  rintro e w1 ⟨rfl, rfl⟩
  rw [hB]
  go_wp2_with fail
  refine (down_any p s _ hS hgood).mono ?_
  rintro e w2 ⟨rfl, hps, hgo⟩
  rw [hD]
  have FI : Hid (Rxs p w1 ([], s.down) (.slice none 0 0) w2) := hid ⟨none, 0, 0, [], rfl, xs_nil, hps, hgo, by omega, fun _ => rfl, fun _ => rfl⟩
  clear hps hgo
  go_wp2
  go_ret
  exact ⟨_, rfl, FI.out⟩
theorem up_good {s : Ps} (h : s.up.good = true) : s.good = true := by cases s with
  | ok l d => rfl
  | bad e a => cases h
theorem need_good {s : Ps} {k : Nat} {c : ByteArray} (h : (s.need k c).good = true) : s.good = true := by
  match s, h with
  | .ok l d, h => rfl
  | .bad e a, h => cases h
set_option maxHeartbeats 4000000 in
set_option maxRecDepth 100000 in
theorem list_yes (E : Pa Ex) (hdp : DP E) (p : Nat) (s : Ps) (w : World) (hS : PS p w s) (hB : s.is 4 ⟨#[40]⟩ = true) (hD : s.down.good = true) (hq : ∀ w', PS p w' s.down.step → Calls Try.prog 56 #[.pointer (some ⟨p, 0, none⟩)] w' (Pxs p w' (sep E s.down.step))) : Calls Try.prog 75 #[.pointer (some ⟨p, 0, none⟩)] w (Pxs p w (listS E s)) := by
  have hpw := hS.lt
  have e1 : listS E s = ((sep E s.down.step).1, ((sep E s.down.step).2.need 4 ⟨#[41]⟩).up) := by unfold listS; rw [hB, hD]; rfl
  rw [e1]
  obtain ⟨d1, d2, d3, d4⟩ := down_good hD
  have hup : Hid (∀ l d, (sep E s.down.step).2.need 4 ⟨#[41]⟩ = .ok l d → 1 ≤ d) := hid (down_deep hD (As.trans (as_need _ _ _) (As.trans (dp_sep hdp _) (as_step s.down)))).1
  obtain ⟨_, _, hgood⟩ := is_step hB (by decide)
  have hk5 : s.down.headK ≠ 5 := by rw [(is_head (s := s.down) (k := 4) (c := ⟨#[40]⟩) (by rw [d4]; exact hB)).2.1]; decide
  generalize hQ : sep E s.down.step = Q at *
  go_enter Try.func75, Try.ntmps75
  go_wp2_with fail
  refine (is4_any p ⟨#[40]⟩ s _ hS).mono ?_
  rintro e w1 ⟨rfl, rfl⟩
  rw [hB]
  go_wp2_with fail
  refine (down_any p s _ hS hgood).mono ?_
  rintro e w2 ⟨rfl, hps, hgo2⟩
  rw [hD]
  go_wp2_with fail
  refine (step_any p s.down _ hps hk5 hD).mono ?_
  rintro e w3 ⟨rfl, hps3, hgo3⟩
  go_wp2_with fail
  refine (hq _ hps3).mono ?_
  rintro e w4 ⟨u, rfl, oa, n, cap, xs, rfl, hx, hps4, hgo4, hlen, hnil, hgd⟩
  go_wp2_with fail
  refine (must_any p ⟨#[41]⟩ _ _ hps4).mono ?_
  rintro e w5 ⟨rfl, hps5, hgo5⟩
  go_wp2_with fail
  refine (up_any p _ _ hps5 hup.out).mono ?_
  rintro e w6 ⟨rfl, hps6, hgo6⟩
  have z2 := hgo2.size
  have z3 := hgo3.size
  have FI : Hid (Rxs p w1 (Q.1, (Q.2.need 4 ⟨#[41]⟩).up) (.slice oa n cap) w6) := hid ⟨oa, n, cap, xs, rfl,
    ((hx.of (hgo5.trans hgo6).size (fun b hb hl => (hgo5.trans hgo6).get hl (by have : w3.heap.size ≤ b := hb; omega))).mono (fun b _ hb => by have : w3.heap.size ≤ b := hb; show w1.heap.size ≤ b; omega)),
    hps6, (((hgo2.trans hgo3).trans hgo4).trans hgo5).trans hgo6, hlen, hnil, fun h => hgd (need_good (up_good h))⟩
  clear hps hps3 hps4 hps5 hps6 hgo2 hgo3 hgo4 hgo5 hgo6 hx hgd hq
  go_wp2
  go_ret
  exact ⟨_, rfl, FI.out⟩
theorem list_any (E : Pa Ex) (hdp : DP E) (p N : Nat) (hq : RdsL 56 (sep E) p N) : Rds 75 (listS E) p N := fun s w hS hs => by
  cases hB : s.is 4 ⟨#[40]⟩ with
  | false => exact list_no E p s w hS hB
  | true =>
    cases hD : s.down.good with
    | false => exact list_full E p s w hS hB hD
    | true =>
      refine list_yes E hdp p s w hS hB hD (fun w' hS' => hq _ _ hS' ?_)
      obtain ⟨d1, d2, d3, d4⟩ := down_good hD
      have := (is_step (s := s.down) (k := 4) (c := ⟨#[40]⟩) (by rw [d4]; exact hB) (by decide)).1
      omega
end Go.Proofs.Ytaogpifcfmjcbaa
end
section
namespace Go.Rg
open Go Go.RowKit
set_option linter.unusedSimpArgs false
set_option linter.unusedVariables false
def ins (D : Nat → Bool) (i : Nat) : Nat → Bool := fun k => if k = i then true else D k
section
variable (P : Program) (ops : Array Oper) (Cs : List Nat) (Ps Ws : List (Nat × Nat)) (St : (Nat → Bool) → (Nat → Value) → World → Prop)
def preS (i : Nat) (D : Nat → Bool) : Prop := ∀ j, (j, i) ∈ Ps → D j = true
def limS (i : Nat) (D : Nat → Bool) : Prop := ∀ k, (i, k) ∈ Ws → D k = false
def StepS (v : Nat → Value) (c : Option Value) (i : Nat) (o : Oper) (a : Act) : Prop :=
  if Cs.contains i then Region.wanted o (yielded ops a.tmps) = true ∧ ∀ D w, D i = false → preS Ps i D → St D v w → BringsS P (fun u w' => match c with
      | some c => u = c ∧ St (ins D i) v w'
      | none => St (ins D i) (upd v i u) w') ((execOp a.eval o).run P w)
  else match c with
    | some c => (Region.wanted o (yielded ops a.tmps) = true ∧ ∀ D w, limS Ws i D → St D v w → Still w c ((execOp a.eval o).run P w)) ∨ (Region.wanted o (yielded ops a.tmps) = false ∧ c = undef)
    | none => False
def wpS (v : Nat → Value) (L : Act → Prop) : List (Option Value) → List Oper → Nat → Act → Prop
  | [], [], _, a => L a
  | c :: K, o :: r, i, a => StepS P ops Cs Ps Ws St v c i o a ∧ wpS v L K r (i + 1) (a.put o.dst (c.getD (v i)))
  | _, _, _, _ => False
end
section
variable {P : Program} {ops : Array Oper} {Cs : List Nat} {Ps Ws : List (Nat × Nat)} {St : (Nat → Bool) → (Nat → Value) → World → Prop} {v : Nat → Value} {L : Act → Prop}
theorem wpS_len : ∀ (K : List (Option Value)) (l : List Oper) (i : Nat) (a : Act), wpS P ops Cs Ps Ws St v L K l i a → K.length = l.length
  | [], [], _, _, _ => rfl
  | c :: K, o :: r, i, a, h => by simp only [List.length_cons]; rw [wpS_len K r _ _ h.2]
  | [], _ :: _, _, _, h => h.elim
  | _ :: _, [], _, _, h => h.elim
theorem wpS_at : ∀ (K : List (Option Value)) (l : List Oper) (i : Nat) (a : Act) (f : Nat → Value), wpS P ops Cs Ps Ws St v L K l i a → (∀ k, k < l.length → f (i + k) = ((K[k]?).getD none).getD (v (i + k))) →
    ∀ m o, l[m]? = some o → StepS P ops Cs Ps Ws St v ((K[m]?).getD none) (i + m) o (putL (fun j => decide (j < i + m)) f l i a)
  | [], [], _, _, _, _, _, m, o, h => by simp at h
  | c :: K, o0 :: r, i, a, f, h, hf, 0, o, ho => by
    have e0 : o0 = o := by simpa using ho
    subst e0
    have e1 : putL (fun j => decide (j < i + 0)) f (o0 :: r) i a = a := putL_none _ _ _ (fun k _ => by simp)
    rw [e1]
    simpa using h.1
  | c :: K, o0 :: r, i, a, f, h, hf, m + 1, o, ho => by
    have h2 := wpS_at K r (i + 1) _ f h.2 (fun k hk => by have := hf (k + 1) (by simp; omega); rw [show i + 1 + k = i + (k + 1) by omega]; simpa using this) m o (by simpa using ho)
    have h0 := hf 0 (by simp)
    simp at h0
    unfold putL
    have e : (if decide (i < i + (m + 1)) then a.put o0.dst (f i) else a) = a.put o0.dst (c.getD (v i)) := by
      rw [if_pos (by simp), h0]
    rw [e, show i + (m + 1) = i + 1 + m by omega]
    simpa using h2
  | [], _ :: _, _, _, _, h, _, _, _, _ => h.elim
  | _ :: _, [], _, _, _, h, _, _, _, _ => h.elim
theorem wpS_end : ∀ (K : List (Option Value)) (l : List Oper) (i : Nat) (a : Act) (f : Nat → Value), wpS P ops Cs Ps Ws St v L K l i a → (∀ k, k < l.length → f (i + k) = ((K[k]?).getD none).getD (v (i + k))) →
    L (putL (fun _ => true) f l i a)
  | [], [], _, _, _, h, _ => h
  | c :: K, o0 :: r, i, a, f, h, hf => by
    have h2 := wpS_end K r (i + 1) _ f h.2 (fun k hk => by have := hf (k + 1) (by simp; omega); rw [show i + 1 + k = i + (k + 1) by omega]; simpa using this)
    have h0 := hf 0 (by simp)
    simp at h0
    unfold putL
    simp only [if_true, h0]
    exact h2
  | [], _ :: _, _, _, _, h, _ => h.elim
  | _ :: _, [], _, _, _, h, _ => h.elim
end
def psB (md : Region.Mode) (ops : Array Oper) (n : Nat) (Cs : List Nat) (Ps : List (Nat × Nat)) : Bool := Ps.all fun p => Cs.contains p.1 && decide (p.1 < n) && rch md ops ops.size p.2 p.1
section
variable {P : Program} {ops : Array Oper} {md : Region.Mode} {Q : Exit → Act → World → Prop}
section
variable {l : List Oper} {n : Nat} {Cs : List Nat} {Ps Ws : List (Nat × Nat)} {St : (Nat → Bool) → (Nat → Value) → World → Prop} {K : List (Option Value)} {a0 : Act}
theorem region_set0 {id : Nat} {w : World} (n : Nat) (Cs : List Nat) (Ps Ws : List (Nat × Nat)) (St : (Nat → Bool) → (Nat → Value) → World → Prop) (K : List (Option Value))
    (hW : ∀ v, St (fun _ => false) v { w with drawn := w.drawn + 1 }) (hm : P.follows .mixedOrders = true) (hB : typedB l n [] [] [] = true) (hC : psB .any l.toArray n Cs Ps = true) (hL : lmB .any l.toArray n Cs Ws = true)
    (hQ : ∀ c (a : Act) d u w, Q (.panic c) (a.put d u) w → Q (.panic c) a w)
    (h : ∀ v : Nat → Value, wpS P l.toArray Cs Ps Ws St v (fun a' => ∀ w', St (fun i => Cs.contains i && decide (i < n)) v w' → wpList P l.toArray Q (l.drop n) a' w') K (l.take n) 0 a0) :
    (Code.region id l.toArray true).wp P Q a0 w := by
  simp only [typedB, Bool.and_eq_true, decide_eq_true_eq] at hB
  obtain ⟨⟨⟨⟨⟨⟨hDF, hsel⟩, hn'⟩, hs⟩, hc⟩, hall⟩, hseq⟩ := hB
  have hn : n < l.toArray.size := by simpa using hn'
  have hselS := Region.noSelect_spec hsel
  have one : ∀ i, i < n → ∀ o, l.toArray[i]? = some o → OneB .any l.toArray l (l.take n) n [] [] o i := fun i hi o ho => by
    have h1 : (l.take n)[i]? = some o := by rw [List.getElem?_take_of_lt hi]; simpa using ho
    have := allB_spec (l.take n) 0 hall i o h1
    rwa [Nat.zero_add] at this
  have take_at : ∀ i o, (l.take n)[i]? = some o → i < n ∧ l.toArray[i]? = some o := fun i o ho => by
    have hi : i < n := by
      have := (List.getElem?_eq_some_iff.1 ho).1
      simp at this; omega
    rw [List.getElem?_take_of_lt hi] at ho
    exact ⟨hi, by simpa using ho⟩
  have hlen : ∀ v, K.length = (l.take n).length := fun v => wpS_len K _ 0 a0 (h v)
  have htl : (l.take n).length = n := by simp at hn ⊢; omega
  let free : Nat → Bool := fun k => ((K[k]?).getD none).isNone
  let vf : (Nat → Value) → Nat → Value := fun v k => valOf K v k
  have dstne : ∀ i j o o', i < n → j < n → i ≠ j → l.toArray[i]? = some o → l.toArray[j]? = some o' → ∀ d, o'.dst = some d → o.dst ≠ some d := fun i j o o' hi hj hne ho ho' d hd => by
    have h1 := rowB_spec (l.take n) 0 (one i hi o ho).row j o' (by rw [List.getElem?_take_of_lt hj]; simpa using ho')
    rw [Nat.zero_add] at h1
    unfold pairB at h1
    rw [hd] at h1
    simp only [Bool.or_eq_true, decide_eq_true_eq, hne, false_or, Bool.and_eq_true, bne_iff_ne, ne_eq] at h1
    exact h1.1
  let FR : (Nat → Bool) → (Nat → Value) → Act := fun S v => putL S (vf v) (l.take n) 0 a0
  have more : ∀ (S S' : Nat → Bool) (v : Nat → Value) (j : Nat) (o : Oper) (u : Value), j < n → l.toArray[j]? = some o → S j = false → S' j = true → (∀ k, k ≠ j → S' k = S k) → (free j = false → vf v j = u) →
      (FR S v).put o.dst u = FR S' (if free j then upd v j u else v) := fun S S' v j o u hj ho h1 h2 h3 h4 => by
    have hold : ∀ k, k ≠ j → vf (if free j then upd v j u else v) k = vf v k := fun k hk => by
      show ((K[k]?).getD none).getD _ = ((K[k]?).getD none).getD _
      split
      · simp [upd, hk]
      · rfl
    have hnew : vf (if free j then upd v j u else v) j = u := by
      cases hfj : free j
      · simpa using h4 hfj
      · show ((K[j]?).getD none).getD _ = u
        have : (K[j]?).getD none = none := by simpa [free] using hfj
        rw [this]; simp [upd]
    exact putL_more (l.take n) 0 a0 j o u (by rw [List.getElem?_take_of_lt hj]; simpa using ho) (by rw [Nat.zero_add]; exact h1) (by rw [Nat.zero_add]; exact h2) (by rw [Nat.zero_add]; exact hnew)
      (fun k hk => by rw [Nat.zero_add]; exact ⟨h3 k hk, hold k hk⟩)
      (fun k o' hk ho' d hd => by
        obtain ⟨hkn, hko⟩ := take_at k o' ho'
        intro hd2
        exact dstne j k o o' hj hkn (Ne.symm hk) ho hko d hd2 hd)
  have sees : ∀ (listed : Array Bool) (v : Nat → Value) (i : Nat) (o : Oper), i < n → l.toArray[i]? = some o → i ∈ Region.ready .any l.toArray listed →
      ∀ t ∈ o.looksAt l.toArray, (FR (fun j => listed.getD j false) v).tmps[t]? = (FR (fun j => decide (j < i)) v).tmps[t]? := fun listed v i o hi ho hr t ht => by
    refine putL_same (l.take n) 0 a0 a0 rfl rfl (fun k o' ho' hd => ?_)
    obtain ⟨hkn, hko⟩ := take_at k o' ho'
    rw [Nat.zero_add]
    have hO := one i hi o ho
    obtain ⟨_, o2, ho2, hall2⟩ := mem_ready.1 hr
    have e2 : o2 = o := Option.some.inj (ho2.symm.trans ho)
    subst e2
    by_cases hik : i = k
    · subst hik
      have e3 : o' = o2 := Option.some.inj (hko.symm.trans ho)
      subst e3
      exact absurd ht (hO.own t hd)
    · have h1 := rowB_spec (l.take n) 0 hO.row k o' ho'
      rw [Nat.zero_add] at h1
      unfold pairB at h1
      rw [hd] at h1
      have hct : (o2.looksAt l.toArray).contains t = true := by simpa using ht
      simp only [Bool.or_eq_true, decide_eq_true_eq, hik, false_or, Bool.and_eq_true, hct, Bool.not_true, Bool.false_eq_true] at h1
      obtain ⟨e, he, hbe⟩ := Array.any_eq_true'.1 h1.2
      simp only [Bool.and_eq_true, beq_iff_eq] at hbe
      have h2 := hall2 e he hbe.1
      rw [hbe.2] at h2
      rw [h2]
      have h3 := Array.all_eq_true_iff_forall_mem.1 hO.back e he
      simp only [hbe.1, Bool.not_true, Bool.false_or, decide_eq_true_eq, hbe.2] at h3
      simp [h3]
  have step : ∀ v i, i < n → ∀ o, l.toArray[i]? = some o → StepS P l.toArray Cs Ps Ws St v ((K[i]?).getD none) i o (FR (fun j => decide (j < i)) v) := fun v i hi o ho => by
    have := wpS_at K (l.take n) 0 a0 (vf v) (h v) (fun k _ => by rw [Nat.zero_add]; rfl) i o (by rw [List.getElem?_take_of_lt hi]; simpa using ho)
    rwa [Nat.zero_add] at this
  have hseq' : ∀ listed : Array Bool, listed.size = l.toArray.size → (∀ j, j < n → listed.getD j false = true) → (∀ t, n ≤ t → t < l.toArray.size → listed.getD t true = false) → Region.seqB .any l.toArray (l.toArray.size - n) n listed = true := fun listed hsz h1 h2 => by
    have e : listed = (List.replicate n true ++ List.replicate (l.length - n) false).toArray := by
      apply Array.ext
      · rw [hsz]; simp; omega
      · intro i hi1 hi2
        by_cases hin : i < n
        · have := h1 i hin
          simp [hi1] at this
          rw [this]; simp [List.getElem_append, hin]
        · have := h2 i (by omega) (by rw [← hsz]; exact hi1)
          simp [hi1] at this
          rw [this]; simp [List.getElem_append, hin]
    rw [e]; simpa using hseq
  have main : ∀ (f : Nat) (listed : Array Bool) (v : Nat → Value) (w : World), HeadInv .any l.toArray n listed → unl (fun j => listed.getD j false) n = f →
      St (fun i => Cs.contains i && decide (i < n) && listed.getD i false) v w → wpAny P .any l.toArray Q (f + (l.toArray.size - n)) listed (FR (fun j => listed.getD j false) v) w := by
    intro f
    induction f with
    | zero =>
      intro listed v w inv hu hK
      have hL := unl_zero hu
      have hend := wpS_end K (l.take n) 0 a0 (vf v) (h v) (fun k _ => by rw [Nat.zero_add]; rfl)
      have es : (fun i => Cs.contains i && decide (i < n) && listed.getD i false) = (fun i => Cs.contains i && decide (i < n)) := by
        funext i
        by_cases hin : i < n
        · simp [hL i hin]
        · simp [hin]
      rw [es] at hK
      have e : FR (fun j => listed.getD j false) v = putL (fun _ => true) (vf v) (l.take n) 0 a0 := putL_congr _ _ _ (fun k hk => by
        have hkn : k < n := by simp at hk; omega
        rw [Nat.zero_add]; exact ⟨hL k hkn, fun _ => rfl⟩)
      rw [e, Nat.zero_add]
      have hdl : (l.drop n).length = l.toArray.size - n := by simp
      have h1 := hend w hK
      have := wpAny_of_seq (md := .any) (Q' := Q) (l.drop n) n listed (putL (fun _ => true) (vf v) (l.take n) 0 a0) w (fun j => by simp [List.getElem?_drop]) (by rw [hdl]; exact hseq' listed inv.size hL inv.tail) h1
      rwa [hdl] at this
    | succ f ih =>
      intro listed v w inv hu hK
      have hex : ∃ i, i < n ∧ listed.getD i false = false ∧ (fun _ : Nat => true) i = true := by
        refine Classical.byContradiction fun hno => ?_
        have h0 : unl (fun j => listed.getD j false) n = 0 := by
          unfold unl
          rw [List.length_eq_zero_iff, List.filter_eq_nil_iff]
          intro x hx
          have hxn := List.mem_range.1 hx
          cases hs : listed.getD x false
          · exact absurd ⟨x, hxn, hs, rfl⟩ hno
          · show ¬ (!(listed.getD x false)) = true
            rw [hs]; decide
        omega
      have inb : ∀ i, i < n → i < listed.size := fun i hi => by rw [inv.size]; omega
      have readyOf : ∀ i, i < n → listed.getD i false = false → (∀ j, j < i → listed.getD j false = true) → i ∈ Region.ready .any l.toArray listed := fun i hi h1 h2 => by
        have hlt : i < l.toArray.size := by omega
        refine mem_ready.2 ⟨getD_in (inb i hi) h1, l.toArray[i], Array.getElem?_eq_getElem hlt, fun e he hb => ?_⟩
        have hO := one i hi _ (Array.getElem?_eq_getElem hlt)
        have h3 := Array.all_eq_true_iff_forall_mem.1 hO.back e he
        simp only [hb, Bool.not_true, Bool.false_or, decide_eq_true_eq] at h3
        exact h2 e.on h3
      obtain ⟨i0, hi0, hi0f, _, hi0l⟩ := least_unl n hex
      rw [show f + 1 + (l.toArray.size - n) = (f + (l.toArray.size - n)) + 1 by omega]
      refine ⟨fun h0 => ?_, fun j hr => ?_⟩
      · have := readyOf i0 hi0 hi0f (fun j hj => hi0l j hj rfl)
        rw [h0] at this; cases this
      have hj : j < n := by
        rcases Nat.lt_or_ge j n with hlt | hge
        · exact hlt
        · exact absurd hr (tail_waitsF hs hc hn inv _ i0 rfl hi0 (by simp) (getD_in (inb i0 hi0) hi0f) j hge)
      obtain ⟨hjun, o, ho, hall2⟩ := mem_ready.1 hr
      have hjf : listed.getD j false = false := getD_both hjun
      have hstp := step v j hj o ho
      have hsee := sees listed v j o hj ho hr
      have hex1 := exec_same (hselS j o · · ho) hsee
      have hw1 := wanted_same hsee
      have inv' := inv.set hr hj
      have hu' : unl (fun k => (listed.setIfInBounds j true).getD k false) n = f := by
        have := unl_set (S := fun k => listed.getD k false) (S' := fun k => (listed.setIfInBounds j true).getD k false) hj hjf (by have := inb j hj; simp [this]) (fun i hi => getD_set_ne false (fun e => hi e.symm))
        omega
      have hfr := fun (u : Value) (h4 : free j = false → vf v j = u) => more (fun k => listed.getD k false) (fun k => (listed.setIfInBounds j true).getD k false) v j o u hj ho hjf (by have := inb j hj; simp [this]) (fun i hi => getD_set_ne false (fun e => hi e.symm)) h4
      have hS'j : (listed.setIfInBounds j true).getD j false = true := by have := inb j hj; simp [this]
      have hS'k : ∀ k, k ≠ j → (listed.setIfInBounds j true).getD k false = listed.getD k false := fun k hk => getD_set_ne false (fun e => hk e.symm)
      unfold Go.wpOp
      simp only [ho]
      by_cases hjc : Cs.contains j = true
      ·
        have hDj : (Cs.contains j && decide (j < n) && listed.getD j false) = false := by rw [hjf]; simp
        have hpre : preS Ps j (fun i => Cs.contains i && decide (i < n) && listed.getD i false) := fun i hi => by
          have h3 := List.all_eq_true.1 hC (i, j) hi
          simp only [Bool.and_eq_true, decide_eq_true_eq] at h3
          obtain ⟨⟨h4, h5⟩, h6⟩ := h3
          have h7 := rch_spec inv _ j i h6 (.inr hr)
          simp only [h4, h5, h7, decide_true, Bool.and_self]
        have hD' : (fun i => Cs.contains i && decide (i < n) && (listed.setIfInBounds j true).getD i false) = ins (fun i => Cs.contains i && decide (i < n) && listed.getD i false) j := by
          funext i
          unfold ins
          by_cases hij : i = j
          · subst hij
            rw [if_pos rfl, hS'j, hjc]; simp [hj]
          · rw [if_neg hij, hS'k i hij]
        unfold StepS at hstp
        rw [if_pos hjc] at hstp
        obtain ⟨hwt, hrun⟩ := hstp
        have next : ∀ (u : Value) (w' : World), (match (K[j]?).getD none with
            | some c => u = c ∧ St (ins (fun i => Cs.contains i && decide (i < n) && listed.getD i false) j) v w'
            | none => St (ins (fun i => Cs.contains i && decide (i < n) && listed.getD i false) j) (upd v j u) w') → wpAny P .any l.toArray Q (f + (l.toArray.size - n)) (listed.setIfInBounds j true) ((FR (fun k => listed.getD k false) v).put o.dst u) w' := fun u w' hR => by
          cases hc0 : (K[j]?).getD none with
          | none =>
            rw [hc0] at hR
            have hfj : free j = true := by simp only [free, hc0, Option.isNone_none]
            rw [hfr u (fun h => by rw [hfj] at h; cases h), hfj]
            simp only [if_true]
            exact ih _ (upd v j u) w' inv' hu' (by rw [hD']; exact hR)
          | some c =>
            rw [hc0] at hR
            obtain ⟨rfl, hR⟩ := hR
            have hfj : free j = false := by simp only [free, hc0, Option.isNone_some]
            have hvc : vf v j = u := by show ((K[j]?).getD none).getD _ = u; rw [hc0]; rfl
            rw [hfr u (fun _ => hvc), hfj]
            simp only [Bool.false_eq_true, if_false]
            exact ih _ v w' inv' hu' (by rw [hD']; exact hR)
        rw [hw1, hwt]
        simp only [if_true]
        refine .inl ?_
        unfold Oper.wp
        rw [hex1]
        have h1 := hrun _ w hDj hpre hK
        generalize (execOp (FR (fun j_1 => decide (j_1 < j)) v).eval o).run P w = r at *
        cases r with
        | ok m w' =>
          cases m <;> simp only [BringsS] at h1 <;> simp only [Oper.upon]
          case value u => exact next u w' h1
          case skip => exact next undef w' h1
          case enter f' args => exact h1.mono fun e w'' ⟨u, he, hR⟩ => by subst he; exact next u w'' hR
        | halt x w' => simp only [BringsS] at h1
      ·
        have hjc' : Cs.contains j = false := by simpa using hjc
        have hD' : (fun i => Cs.contains i && decide (i < n) && (listed.setIfInBounds j true).getD i false) = (fun i => Cs.contains i && decide (i < n) && listed.getD i false) := by
          funext i
          by_cases hij : i = j
          · subst hij
            rw [hjc']; simp
          · rw [hS'k i hij]
        unfold StepS at hstp
        rw [if_neg hjc] at hstp
        cases hc0 : (K[j]?).getD none with
        | none => rw [hc0] at hstp; exact hstp.elim
        | some c =>
          rw [hc0] at hstp
          simp only at hstp
          have hfj : free j = false := by simp only [free, hc0, Option.isNone_some]
          have hvc : vf v j = c := by show ((K[j]?).getD none).getD _ = c; rw [hc0]; rfl
          have next : wpAny P .any l.toArray Q (f + (l.toArray.size - n)) (listed.setIfInBounds j true) ((FR (fun k => listed.getD k false) v).put o.dst c) w := by
            rw [hfr c (fun _ => hvc), hfj]
            simp only [Bool.false_eq_true, if_false]
            exact ih _ v w inv' hu' (by rw [hD']; exact hK)
          rcases hstp with ⟨hwt, hrun⟩ | ⟨hwt, hcu⟩
          · rw [hw1, hwt]
            simp only [if_true]
            refine .inl ?_
            unfold Oper.wp
            rw [hex1]
            have h1 := hrun _ w (fun k hk => by
              have h3 := List.all_eq_true.1 hL (j, k) hk
              simp only [Bool.and_eq_true, decide_eq_true_eq] at h3
              obtain ⟨⟨h4, h5⟩, h6⟩ := h3
              cases h8 : listed.getD k false with
              | false => simp
              | true =>
                have h7 := rch_spec inv _ k j h6 (.inl h8)
                rw [h7] at hjf; cases hjf) hK
            generalize (execOp (FR (fun j_1 => decide (j_1 < j)) v).eval o).run P w = r at *
            cases r with
            | ok m w' =>
              cases m <;> simp only [Still] at h1 <;> simp only [Oper.upon]
              case value u => obtain ⟨rfl, rfl⟩ := h1; exact next
              case skip => obtain ⟨rfl, rfl⟩ := h1; exact next
            | halt x w' => simp only [Still] at h1
          · rw [hw1, hwt]
            simp only [Bool.false_eq_true, if_false]
            rw [← hcu]
            exact next
  have inv0 : HeadInv .any l.toArray n (Array.replicate l.toArray.size false) :=
    ⟨by simp, fun j oj _ hl => (by rw [getD_replicate_false] at hl; cases hl), fun t _ ht => getD_in (by simpa using ht) (getD_replicate_false _ _)⟩
  have hu0 : unl (fun j => (Array.replicate l.toArray.size false).getD j false) n = n := by
    unfold unl
    have : (List.range n).filter (fun i => !(Array.replicate l.toArray.size false).getD i false) = List.range n := List.filter_eq_self.2 fun x _ => by rw [getD_replicate_false]; rfl
    rw [this]; simp
  refine wp_region_any hm ?_
  have e0 : FR (fun j => (Array.replicate l.toArray.size false).getD j false) (fun _ => undef) = a0 := putL_none _ _ _ (fun k _ => getD_replicate_false _ _)
  have e00 : (fun i => Cs.contains i && decide (i < n) && (Array.replicate l.toArray.size false).getD i false) = (fun _ => false) := by
    funext i
    rw [getD_replicate_false]; simp
  have := main n _ (fun _ => undef) _ inv0 hu0 (by rw [e00]; exact hW _)
  rw [e0, show n + (l.toArray.size - n) = l.toArray.size by omega] at this
  exact this
theorem region_set {id : Nat} {w : World} (n : Nat) (Cs : List Nat) (Ps Ws : List (Nat × Nat)) (St : (Nat → Bool) → (Nat → Value) → World → Prop) (K : List (Option Value))
    (hW : ∀ v, St (fun _ => false) v { w with drawn := w.drawn + 1 }) (hm : P.follows .mixedOrders = true) (hB : typedB l n [] [] [] = true) (hC : psB .any l.toArray n Cs Ps = true) (hL : lmB .any l.toArray n Cs Ws = true)
    (hQ : ∀ c (a : Act) d u w, Q (.panic c) (a.put d u) w → Q (.panic c) a w)
    (h : ∀ OPS : Array Oper, OPS = l.toArray → ∀ v : Nat → Value, wpS P OPS Cs Ps Ws St v (fun a' => ∀ w', St (fun i => Cs.contains i && decide (i < n)) v w' → wpList P OPS Q (l.drop n) a' w') K (l.take n) 0 a0) :
    (Code.region id l.toArray true).wp P Q a0 w := region_set0 n Cs Ps Ws St K hW hm hB hC hL hQ (h _ rfl)
end
end
end Go.Rg
end
section
namespace Go.Proofs.Ytaogpifcfmjcbaa
open Go.RowKit
set_option linter.unusedSimpArgs false
set_option linter.unusedVariables false
section
variable {P : Program} {ops : Array Oper} {Cs : List Nat} {Ps Ws : List (Nat × Nat)} {St : (Nat → Bool) → (Nat → Value) → World → Prop} {v : Nat → Value} {i : Nat} {o : Oper} {a : Act}
theorem ss_still {c : Value} (hC : Cs.contains i = false) (hw : Region.wanted o (yielded ops a.tmps) = true) (h : ∀ D w, Rg.limS Ws i D → St D v w → Rg.Still w c ((execOp a.eval o).run P w)) : Rg.StepS P ops Cs Ps Ws St v (some c) i o a := by
  unfold Rg.StepS
  rw [hC]
  simp only [Bool.false_eq_true, if_false]
  exact .inl ⟨hw, h⟩
theorem ss_new (hC : Cs.contains i = true) (hw : Region.wanted o (yielded ops a.tmps) = true) (h : ∀ D w, D i = false → Rg.preS Ps i D → St D v w → Rg.BringsS P (fun u w' => St (Rg.ins D i) (Rg.upd v i u) w') ((execOp a.eval o).run P w)) : Rg.StepS P ops Cs Ps Ws St v none i o a := by
  unfold Rg.StepS
  rw [hC]
  simp only [if_true]
  exact ⟨hw, h⟩
end
structure CB (p : Nat) (w : World) (R0 E : Nat) (r : XR) (x : Ex) (wl : World) : Prop where
  hp : p < w.heap.size
  h0 : R0 = w.heap.size
  h1 : R0 < E
  e : wl.heap[E]? = some (.cells (XR.cells r) 32 (0, 0))
  z : wl.heap[R0]? = some (.cells zeroX 32 (0, 0))
  x : Ex.At (fun b => w.heap.size ≤ b ∧ b ≠ E ∧ b ≠ R0) wl x r
  g : Go1 p w wl
section
variable {p : Nat} {w : World} {R0 E : Nat} {r : XR} {x : Ex} {wl w' : World}
theorem CB.lt (h : CB p w R0 E r x wl) : E < wl.heap.size := (Array.getElem?_eq_some_iff.1 h.e).1
theorem CB.go (h : CB p w R0 E r x wl) (hg : Go1 p wl w') : CB p w R0 E r x w' :=
  have hE := h.lt
  have h0 := h.h0
  have h1 := h.h1
  have hp := h.hp
  ⟨h.hp, h.h0, h.h1, by rw [hg.get hE (by omega)]; exact h.e, by rw [hg.get (by omega) (by omega)]; exact h.z, h.x.of hg.size (fun b hb hl => hg.get hl (by have := hb.1; omega)), h.g.trans hg⟩
theorem CB.gr (h : CB p w R0 E r x wl) (hg : Gr wl w') : CB p w R0 E r x w' := h.go (.of hg)
theorem CB.at (h : CB p w R0 E r x wl) : Ex.At (fun b => w.heap.size ≤ b ∧ b ≠ R0) wl x r := h.x.mono (fun b _ hb => ⟨hb.1, hb.2.2⟩)
theorem CB.start {s : Ps} {q : Pa Ex} {w1 : World} (hpw : p < w.heap.size) (hx : Ex.At (Nw (w.alloc (.cells zeroX 32))) w1 x r) (hgo : Go1 p (w.alloc (.cells zeroX 32)) w1) : CB p w w.heap.size w1.heap.size r x (w1.alloc (.cells r.cells 32)) := by
  have hz := hgo.size
  simp only [World.size_alloc] at hz
  have hG := (Gr.refl w1).alloc (.cells r.cells 32)
  refine ⟨hpw, rfl, by omega, alloc_at _ _, ?_, ?_, ((Go1.of ((Gr.refl w).alloc _)).trans hgo).block2 hG⟩
  · rw [hG.block _ (by omega), hgo.get (by simp) (by omega)]
    exact alloc_at _ _
  · refine (hx.mono (fun b hb hs => ?_)).of hG.size (fun b _ hb => hG.block b hb)
    simp only [Nw, World.size_alloc] at hs
    exact ⟨by omega, by omega, by omega⟩
theorem CB.give (h : CB p w R0 E r x w') {R : Ex × Ps} {r' : XR} {x' : Ex} (hx : Ex.At (fun b => w.heap.size ≤ b ∧ b ≠ R0) w' x' r') (hps : PS p w' R.2) (hxs : R.2.good = true → x' = R.1) (b0 b1 b2 b3 b4 b5 b6 b7 b8 b9 b10 b11 : Value) :
    Rx p w R r'.val ((((((((((((w'.setCell ⟨R0, 0, none⟩ b0).setCell ⟨R0, 1, none⟩ b1).setCell ⟨R0, 2, none⟩ b2).setCell ⟨R0, 3, none⟩ b3).setCell ⟨R0, 4, none⟩ b4).setCell ⟨R0, 5, none⟩ b5).setCell ⟨R0, 6, none⟩ b6).setCell ⟨R0, 7, none⟩ b7).setCell ⟨R0, 8, none⟩ b8).setCell ⟨R0, 9, none⟩ b9).setCell ⟨R0, 10, none⟩ b10).setCell ⟨R0, 11, none⟩ b11) :=
  Go.Proofs.Ytaogpifcfmjcbaa.give h.hp h.h0 hx hps h.g hxs _ _ _ _ _ _ _ _ _ _ _ _
end
def cmpC : Nat → ByteArray
  | 0 => ⟨#[61]⟩
  | 1 => ⟨#[60, 62]⟩
  | 2 => ⟨#[60]⟩
  | 3 => ⟨#[60, 61]⟩
  | 4 => ⟨#[62]⟩
  | _ => ⟨#[62, 61]⟩
theorem cmp_find {s : Ps} {k : Nat} (hk : k < 6) (h : s.is 4 (cmpC k) = true) (hn : ∀ j, j < k → s.is 4 (cmpC j) = false) : cmpOps.find? (fun o => s.is 4 o.1) = some (cmpC k, 9 + (k : Int)) := by
  unfold cmpOps
  rcases k with _ | _ | _ | _ | _ | _ | k
  · simp only [cmpC] at h; simp [h, cmpC]
  · have h0 := hn 0 (by omega); simp only [cmpC] at h h0; simp [h, h0, cmpC]
  · have h0 := hn 0 (by omega); have h1 := hn 1 (by omega); simp only [cmpC] at h h0 h1; simp [h, h0, h1, cmpC]
  · have h0 := hn 0 (by omega); have h1 := hn 1 (by omega); have h2 := hn 2 (by omega); simp only [cmpC] at h h0 h1 h2; simp [h, h0, h1, h2, cmpC]
  · have h0 := hn 0 (by omega); have h1 := hn 1 (by omega); have h2 := hn 2 (by omega); have h3 := hn 3 (by omega); simp only [cmpC] at h h0 h1 h2 h3; simp [h, h0, h1, h2, h3, cmpC]
  · have h0 := hn 0 (by omega); have h1 := hn 1 (by omega); have h2 := hn 2 (by omega); have h3 := hn 3 (by omega); have h4 := hn 4 (by omega); simp only [cmpC] at h h0 h1 h2 h3 h4; simp [h, h0, h1, h2, h3, h4, cmpC]
  · omega
theorem cmp_none {s : Ps} (hn : ∀ j, j < 6 → s.is 4 (cmpC j) = false) : cmpOps.find? (fun o => s.is 4 o.1) = none := by
  unfold cmpOps
  have h0 := hn 0 (by omega); have h1 := hn 1 (by omega); have h2 := hn 2 (by omega); have h3 := hn 3 (by omega); have h4 := hn 4 (by omega); have h5 := hn 5 (by omega)
  simp only [cmpC] at h0 h1 h2 h3 h4 h5
  simp [h0, h1, h2, h3, h4, h5]
theorem cmp_index {W : World} (k : Nat) (hk : k < 6) : (Instr.index 108 (.agg #[.string ⟨#[61]⟩, .string ⟨#[60, 62]⟩, .string ⟨#[60]⟩, .string ⟨#[60, 61]⟩, .string ⟨#[62]⟩, .string ⟨#[62, 61]⟩]) (.int .i64 (k : Int))).run Try.prog W = .ok (.string (cmpC k)) W := by
  rcases k with _ | _ | _ | _ | _ | _ | k
  · kernel_rfl
  · kernel_rfl
  · kernel_rfl
  · kernel_rfl
  · kernel_rfl
  · kernel_rfl
  · omega
end Go.Proofs.Ytaogpifcfmjcbaa
end
section
namespace Go.Proofs.Ytaogpifcfmjcbaa
open Go.RowKit
set_option linter.unusedVariables false
theorem runs_append {P : Program} (w : World) (t ty : TypeId)
    (base : Nat) (e : TypeId) (i : TypeInfo) (z : Value) (size bytes : Nat) (h1 : P.underlying t = some (.slice e)) (h2 : P.info? e = some i) (h3 : i.zero = some z) (h4 : i.size = size) (h5 : i.bytes = bytes) (h6 : z.cells.size = size) (h7 : 0 < size)
    (g k cap : Nat) (xs : List Value) (hown : w.ownsRow base e size (.slice (some ⟨g, 0, none⟩) k cap) k xs) (oa : Option Addr) (m c : Nat) (news : List Value) (hn : news.length = m * size)
    (hoa : oa = none → m = 0 ∧ c = 0) (hc : ∀ ad, oa = some ad → ∀ j u, news[j]? = some u → w.cell? (ad.add j) = some u) (h1c : ∀ u ∈ news, u.oneCell' = true) (b1 : k + m ≤ maxLen) (b2 : (k + m) * bytes ≤ 140737488355328) (b3 : base ≤ w.heap.size) :
    ∃ v' w', (Builtin.append_ #[t, t] ty #[.slice (some ⟨g, 0, none⟩) k cap, .slice oa m c]).run P w = .ok v' w' ∧ w'.ownsRow base e size v' (k + m) (xs ++ news) ∧ Gz (.slice (some ⟨g, 0, none⟩) k cap) w w' ∧ Moved (.slice (some ⟨g, 0, none⟩) k cap) w v' := by
  have weak : ∀ {v : Value} {w' : World}, w.grownBy w' none → Gz v w w' := fun h => ⟨h.os, h.tape, h.output, h.size, fun i hi _ => h.block i hi (by simp)⟩
  cases oa with
  | none =>
    obtain ⟨rfl, rfl⟩ := hoa rfl
    have hnews : news = [] := List.eq_nil_of_length_eq_zero (by simpa using hn)
    subst hnews
    exact ⟨_, w, run_append_owned_none (P := P) w base t ty e i size h1 h2 _ k xs hown, by simpa using hown, .refl _ _, .inl rfl⟩
  | some ad =>
    by_cases hr : k + m ≤ cap
    · obtain ⟨w', hrun, r1, r2⟩ := run_append_fits (P := P) w base t ty e i size h1 h2 h4 g k cap xs hown ad m c news hn (hc ad rfl) h1c hr
      exact ⟨_, w', hrun, r1, r2, .inl rfl⟩
    · obtain ⟨v', w', hrun, r1, r2⟩ := run_append_arg_grows (P := P) w t ty e i z size bytes h1 h2 h3 h4 h5 h6 h7 ⟨g, 0, none⟩ k cap xs hown.1 (fun j u hj => hown.cells (g := g) rfl j u hj) ad m c news hn (hc ad rfl) (by omega) b1 b2
      exact ⟨v', w', hrun, own_mono r1 b3, weak r2, .inr fun g e => (World.ownsRow.lt r1 g e).1⟩
theorem brings_append {P : Program} {w : World} {o : Oper} {a : Act} {R : Value → World → Prop} (s x : Operand) (t : TypeId) (hop : o.op = Op.call { callee := Callee.builtin Builtin.append, args := #[s, x], argTypes := #[t, t] })
    {v1 v2 v' : Value} {w' : World} (hs : a.eval s = v1) (hx : a.eval x = v2) (hrun : (Builtin.append_ #[t, t] o.type #[v1, v2]).run P w = .ok v' w') (hR : R v' w') : Rg.BringsS P R ((execOp a.eval o).run P w) := by
  simp [execOp, hop, resolve, invoke, builtin, hs, hx, hrun, Result.andThen, Rg.BringsS, hR]
def Late2 (idx m : Nat) (T : TypeId) (w : World) (RX : World → Value → World → Prop) (CS : Value → Array Value → Prop) (s : Nat) (v : Nat → Value) (W : World) : Prop :=
  if s = 0 then Gr w W else if s = 1 then ∃ W0, Gr w W0 ∧ RX W0 (v idx) W else ∃ W0 W1 cs, Gr w W0 ∧ RX W0 (v idx) W1 ∧ CS (v idx) cs ∧ W = W1.alloc (.cells cs T) ∧ v (idx + 1) = .slice (some ⟨W1.heap.size, 0, none⟩) m m
section
variable {idx m : Nat} {T : TypeId} {w W : World} {RX : World → Value → World → Prop} {CS : Value → Array Value → Prop} {v : Nat → Value}
theorem Late2.s0 (h : Gr w W) : Late2 idx m T w RX CS 0 v W := by unfold Late2; rw [if_pos rfl]; exact h
theorem Late2.g0 (h : Late2 idx m T w RX CS 0 v W) : Gr w W := by unfold Late2 at h; rw [if_pos rfl] at h; exact h
theorem Late2.s1 (h : ∃ W0, Gr w W0 ∧ RX W0 (v idx) W) : Late2 idx m T w RX CS 1 v W := by unfold Late2; rw [if_neg (by decide), if_pos rfl]; exact h
theorem Late2.g1 (h : Late2 idx m T w RX CS 1 v W) : ∃ W0, Gr w W0 ∧ RX W0 (v idx) W := by unfold Late2 at h; rw [if_neg (by decide), if_pos rfl] at h; exact h
theorem Late2.s2 {W0 : World} {cs : Array Value} (h0 : Gr w W0) (h1 : RX W0 (v idx) W) (h2 : CS (v idx) cs) : Late2 idx m T w RX CS 2 (Rg.upd v (idx + 1) (.slice (some ⟨W.heap.size, 0, none⟩) m m)) (W.alloc (.cells cs T)) := by
  unfold Late2
  rw [if_neg (by decide), if_neg (by decide)]
  have e : Rg.upd v (idx + 1) (.slice (some ⟨W.heap.size, 0, none⟩) m m) idx = v idx := by simp [Rg.upd]
  exact ⟨W0, W, cs, h0, by rw [e]; exact h1, by rw [e]; exact h2, rfl, upd_same _ _ _⟩
theorem Late2.g2 (h : Late2 idx m T w RX CS 2 v W) : ∃ W0 W1 cs, Gr w W0 ∧ RX W0 (v idx) W1 ∧ CS (v idx) cs ∧ W = W1.alloc (.cells cs T) ∧ v (idx + 1) = .slice (some ⟨W1.heap.size, 0, none⟩) m m := by unfold Late2 at h; rw [if_neg (by decide), if_neg (by decide)] at h; exact h
theorem Late2.any {p s : Nat} (hR : ∀ W0 u W, RX W0 u W → Go1 p W0 W) (h : Late2 idx m T w RX CS s v W) : Go1 p w W := by
  unfold Late2 at h
  split at h
  · exact .of h
  · split at h
    · obtain ⟨W0, h1, h2⟩ := h; exact (Go1.of h1).trans (hR _ _ _ h2)
    · obtain ⟨W0, W1, cs, h1, h2, _, rfl, _⟩ := h; exact ((Go1.of h1).trans (hR _ _ _ h2)).block2 ((Gr.refl _).alloc _)
end
theorem xr_inj {r1 r2 : XR} (h : r1.val = r2.val) : r1 = r2 := by
  obtain ⟨⟨o1, ⟨a1, a2, a3, a4⟩, a5, a6, a7, a8, a9, a10⟩, b1, b2, b3⟩ := r1
  obtain ⟨⟨o2, ⟨c1, c2, c3, c4⟩, c5, c6, c7, c8, c9, c10⟩, d1, d2, d3⟩ := r2
  simp [XR.val] at h
  simp [h]
def CsX (pre : Array Value) (u : Value) (cs : Array Value) : Prop := ∃ ry : XR, u = ry.val ∧ cs = pre ++ ry.cells
end Go.Proofs.Ytaogpifcfmjcbaa
end
section
namespace Go.Proofs.Ytaogpifcfmjcbaa
open Go.RowKit
set_option linter.unusedVariables false
theorem Go1.row (g : Nat) (w : World) (cs : Array Value) : Go1 g w (w.setRow g cs) :=
  ⟨rfl, rfl, rfl, by simp [World.setRow], fun i _ hi => setRow_other w g i cs (fun e => hi (by rw [e]))⟩
theorem st_row {P : Program} {ops : Array Oper} {rest : List Oper} {o : Oper} {a : Act} {w : World} {Q : Exit → Act → World → Prop} {ty : TypeId} {x y : Operand} (ho : o.op = .store ty x y) (hgd : o.guard = none)
    (g : Nat) (cells : Array Value) (hx : a.eval x = .pointer (some ⟨g, 0, none⟩)) (hy : a.eval y = .agg cells)
    (t : TypeId) (old : Array Value) (hg : w.heap[g]? = some (.cells old t (0, 0))) (hi : (P.info? ty).map (·.size) = some cells.size)
    (hold : old.size = cells.size) (h1 : cells.all (·.oneCell') = true)
    (hK : ∀ W, W.heap[g]? = some (.cells cells t (0, 0)) → Go1 g w W → W.heap.size = w.heap.size → wpList P ops Q rest (a.put o.dst undef) W) : wpList P ops Q (o :: rest) a w :=
  wpList_plain hgd fun _ hK' => wp_store_row ty x y ho g cells hx hy t old hg hi hold h1 (hK' _ _ (hK _ (setRow_heap w g old cells t (0, 0) hg) (Go1.row g w cells) (by simp [World.setRow])))
theorem giveG {p : Nat} {w w2 W5 : World} {R0 : Nat} {R : Ex × Ps} {r : XR} {x : Ex} (hpw : p < w.heap.size) (hR0 : R0 = w.heap.size) (hx : Ex.At (fun b => w.heap.size ≤ b ∧ b ≠ R0) w2 x r) (hps : PS p w2 R.2) (hgo : Go1 p w w2) (hxs : R.2.good = true → x = R.1) (hS : Go1 R0 w2 W5) : Rx p w R r.val W5 := by
  refine ⟨r, x, rfl, ?_, hps.go hS (by omega), hgo.own hS (by omega), hxs⟩
  exact (hx.of hS.size (fun b hb hl => hS.get hl hb.2)).mono (fun b _ hb => hb.1)
theorem CB.giveG {p : Nat} {w : World} {R0 E : Nat} {r : XR} {x : Ex} {w' W5 : World} (h : CB p w R0 E r x w') {R : Ex × Ps} {r' : XR} {x' : Ex} (hx : Ex.At (fun b => w.heap.size ≤ b ∧ b ≠ R0) w' x' r') (hps : PS p w' R.2) (hxs : R.2.good = true → x' = R.1) (hS : Go1 R0 w' W5) : Rx p w R r'.val W5 :=
  Go.Proofs.Ytaogpifcfmjcbaa.giveG h.hp h.h0 hx hps h.g hxs hS
end Go.Proofs.Ytaogpifcfmjcbaa
end
section
namespace Go.Proofs.Ytaogpifcfmjcbaa
open Go.RowKit
set_option linter.unusedVariables false
structure Slc where
  oa : Option Addr := none
  n : Nat := 0
  cap : Nat := 0
def Slc.val (s : Slc) : Value := .slice s.oa s.n s.cap
def All2 : List Value → List Value → Prop
  | [], l => l = []
  | u :: us, l => ∃ v vs, l = v :: vs ∧ SameV u v ∧ All2 us vs
structure Kd (α β : Type) where
  f : α → List Value
  n : Nat
  T : TypeId
  E : (Nat → Prop) → World → β → α → Prop
variable {α β : Type}
structure Kd.Ok (K : Kd α β) : Prop where
  enc : Enc K.f K.n
  of : ∀ {S : Nat → Prop} {w w' : World} {y : β} {r : α}, w.heap.size ≤ w'.heap.size → (∀ b, S b → b < w.heap.size → w'.heap[b]? = w.heap[b]?) → K.E S w y r → K.E S w' y r
  mono : ∀ {S S' : Nat → Prop} {w : World} {y : β} {r : α}, (∀ b, b < w.heap.size → S b → S' b) → K.E S w y r → K.E S' w y r
  cl : ∀ {S S' : Nat → Prop} {w w' : World} {y : β} {r : α} {cs : List Value}, Cl S' w w' → K.E S w y r → All2 (K.f r) cs → ∃ r', K.E S w' y r' ∧ K.f r' = cs
def Es (K : Kd α β) (S : Nat → Prop) (w : World) (ys : List β) (rs : List α) : Prop := rs.length = ys.length ∧ ∀ k (h1 : k < ys.length) (h2 : k < rs.length), K.E S w ys[k] rs[k]
theorem Es.nil {K : Kd α β} {S : Nat → Prop} {w : World} : Es K S w [] [] := ⟨rfl, fun k h => by simp at h⟩
theorem Es.snoc {K : Kd α β} {S : Nat → Prop} {w : World} {ys : List β} {rs : List α} {y : β} {r : α} (h : Es K S w ys rs) (hy : K.E S w y r) : Es K S w (ys ++ [y]) (rs ++ [r]) := by
  refine ⟨by simp [h.1], fun k h1 h2 => ?_⟩
  by_cases hk : k < ys.length
  · rw [List.getElem_append_left hk, List.getElem_append_left (by rw [h.1]; exact hk)]
    exact h.2 k hk _
  · have e : k = ys.length := by simp at h1; omega
    subst e
    rw [List.getElem_append_right (Nat.le_refl _), List.getElem_append_right (by rw [h.1]; exact Nat.le_refl _)]
    simpa [h.1] using hy
theorem Es.of {K : Kd α β} (hK : K.Ok) {S : Nat → Prop} {w w' : World} {ys : List β} {rs : List α} (hz : w.heap.size ≤ w'.heap.size) (hb : ∀ b, S b → b < w.heap.size → w'.heap[b]? = w.heap[b]?) (h : Es K S w ys rs) : Es K S w' ys rs := ⟨h.1, fun k h1 h2 => hK.of hz hb (h.2 k h1 h2)⟩
theorem Es.mono {K : Kd α β} (hK : K.Ok) {S S' : Nat → Prop} {w : World} {ys : List β} {rs : List α} (hS : ∀ b, b < w.heap.size → S b → S' b) (h : Es K S w ys rs) : Es K S' w ys rs := ⟨h.1, fun k h1 h2 => hK.mono hS (h.2 k h1 h2)⟩
def KRow (K : Kd α β) (S : Nat → Prop) (w : World) (oa : Option Addr) (rs : List α) : Prop := rs = [] ∨ ∃ b off, oa = some ⟨b, off, none⟩ ∧ b < w.heap.size ∧ S b ∧ (∀ j, w.frozen? ⟨b, j, none⟩ = false) ∧ RowF K.f K.n w b off rs
theorem KRow.of {K : Kd α β} {S : Nat → Prop} {w w' : World} {oa : Option Addr} {rs : List α} (h : KRow K S w oa rs) (hz : w.heap.size ≤ w'.heap.size) (hb : ∀ b, S b → b < w.heap.size → w'.heap[b]? = w.heap[b]?) : KRow K S w' oa rs := by
  rcases h with h | ⟨b, off, e, hl, hs, hf, hr⟩
  · exact .inl h
  · exact .inr ⟨b, off, e, Nat.lt_of_lt_of_le hl hz, hs, fun j => by unfold World.frozen?; rw [hb b hs hl]; exact hf j, fun i hi j u hu => by rw [World.cell?_of_block (w := w) (hb b hs hl)]; exact hr i hi j u hu⟩
theorem KRow.mono {K : Kd α β} {S S' : Nat → Prop} {w : World} {oa : Option Addr} {rs : List α} (h : KRow K S w oa rs) (hS : ∀ b, b < w.heap.size → S b → S' b) : KRow K S' w oa rs := by
  rcases h with h | ⟨b, off, e, hl, hs, hf, hr⟩
  · exact .inl h
  · exact .inr ⟨b, off, e, hl, hS b hl hs, hf, hr⟩
def KsAt (K : Kd α β) (S : Nat → Prop) (w : World) (ys : List β) (s : Slc) : Prop := s.n = ys.length ∧ Fit s.n s.cap ∧ ∃ rs, Es K S w ys rs ∧ KRow K S w s.oa rs
theorem KsAt.of {K : Kd α β} (hK : K.Ok) {S : Nat → Prop} {w w' : World} {ys : List β} {s : Slc} (h : KsAt K S w ys s) (hz : w.heap.size ≤ w'.heap.size) (hb : ∀ b, S b → b < w.heap.size → w'.heap[b]? = w.heap[b]?) : KsAt K S w' ys s := by
  obtain ⟨h1, h2, rs, h3, h4⟩ := h
  exact ⟨h1, h2, rs, h3.of hK hz hb, h4.of hz hb⟩
theorem KsAt.mono {K : Kd α β} (hK : K.Ok) {S S' : Nat → Prop} {w : World} {ys : List β} {s : Slc} (h : KsAt K S w ys s) (hS : ∀ b, b < w.heap.size → S b → S' b) : KsAt K S' w ys s := by
  obtain ⟨h1, h2, rs, h3, h4⟩ := h
  exact ⟨h1, h2, rs, h3.mono hK hS, h4.mono hS⟩
theorem KsAt.none {K : Kd α β} {S : Nat → Prop} {w : World} : KsAt K S w [] {} := ⟨rfl, fit_le 0 (by decide), [], Es.nil, .inl rfl⟩
abbrev Ab (n : Nat) : Nat → Prop := fun b => n ≤ b
theorem ab_no {n p : Nat} (h : p < n) : ¬ Ab n p := Nat.not_le.2 h
def KL (K : Kd α β) (S : Nat → Prop) (w : World) (v : Value) (ys : List β) : Prop := ∃ rs, w.ownsRow 0 K.T K.n v ys.length (cellsF K.f rs) ∧ (∀ b, v.ownBlock = some b → S b) ∧ Es K (fun b => S b ∧ v.ownBlock ≠ some b) w ys rs
theorem KL.nil {K : Kd α β} {S : Nat → Prop} {w : World} : KL K S w (.slice none 0 0) [] := ⟨[], ⟨by simp [cellsF], .inl ⟨rfl, rfl⟩⟩, fun b e => (by cases e), Es.nil⟩
theorem KL.blk {K : Kd α β} {S : Nat → Prop} {g : Nat} {w : World} {v : Value} {ys : List β} (h : KL K S w v ys) (e : v.ownBlock = some g) : S g ∧ g < w.heap.size := by
  obtain ⟨rs, h1, h2, _⟩ := h
  exact ⟨h2 g e, (World.ownsRow.lt h1 g e).2⟩
theorem KL.mono {K : Kd α β} (hK : K.Ok) {S S' : Nat → Prop} {w : World} {v : Value} {ys : List β} (h : KL K S w v ys) (hS : ∀ b, b < w.heap.size → S b → S' b) : KL K S' w v ys := by
  have hb := fun g e => h.blk (g := g) e
  obtain ⟨rs, h1, h2, h3⟩ := h
  exact ⟨rs, h1, fun b e => hS b (hb b e).2 (h2 b e), h3.mono hK (fun b hl hs => ⟨hS b hl hs.1, hs.2⟩)⟩
theorem KL.keep {K : Kd α β} (hK : K.Ok) {S : Nat → Prop} {w w' : World} {v : Value} {ys : List β} (h : KL K S w v ys) (hz : w.heap.size ≤ w'.heap.size) (hb : ∀ b, S b → b < w.heap.size → w'.heap[b]? = w.heap[b]?) : KL K S w' v ys := by
  obtain ⟨rs, h1, h2, h3⟩ := h
  refine ⟨rs, ?_, h2, h3.of hK hz (fun b hs hl => hb b hs.1 hl)⟩
  refine ⟨h1.1, ?_⟩
  rcases h1.2 with h0 | ⟨g, cap, cur, e, hbg, hg, h4⟩
  · exact .inl h0
  · exact .inr ⟨g, cap, cur, e, hbg, by rw [hb g (h2 g (by rw [e]; rfl)) (Array.getElem?_eq_some_iff.1 hg).1]; exact hg, h4⟩
theorem KL.go {K : Kd α β} (hK : K.Ok) {S : Nat → Prop} {p : Nat} {w w' : World} {v : Value} {ys : List β} (h : KL K S w v ys) (hg : Go1 p w w') (hp : ¬ S p) : KL K S w' v ys :=
  h.keep hK hg.size (fun b hb hl => hg.get hl (fun e => hp (e ▸ hb)))
theorem KL.gr {K : Kd α β} (hK : K.Ok) {S : Nat → Prop} {w w' : World} {v : Value} {ys : List β} (h : KL K S w v ys) (hg : Gr w w') : KL K S w' v ys :=
  h.keep hK hg.size (fun b _ hl => hg.block b hl)
theorem KL.at {K : Kd α β} (hK : K.Ok) {S : Nat → Prop} {w : World} {v : Value} {ys : List β} (h : KL K S w v ys) (hn : ys.length ≤ 2000000) : ∃ s : Slc, v = s.val ∧ KsAt K S w ys s ∧ (s.oa = none → s.cap = 0) := by
  obtain ⟨rs, h1, hS, h2⟩ := h
  have h1' : w.ownsRow 0 K.T K.n v rs.length (cellsF K.f rs) := by rw [h2.1]; exact h1
  obtain ⟨oa, c, rfl, hat, hc, hb⟩ := own_at (f := K.f) (n := K.n) (l := rs) hK.enc h1'
  refine ⟨⟨oa, rs.length, c⟩, rfl, ⟨h2.1, ⟨hc, by show rs.length ≤ _; rw [h2.1]; exact hn⟩, rs, h2.mono hK (fun b _ hs => hs.1), ?_⟩, fun e => ?_⟩
  · rcases (hat : AtF K.f K.n w oa rs) with h0 | ⟨b, off, e, hl, hr⟩
    · exact .inl h0
    · subst e
      have hf : ∀ j, w.frozen? ⟨b, j, none⟩ = false := by
        rcases h1'.2 with ⟨e, _⟩ | ⟨g, cap', cur, e, _, hg, _⟩
        · cases e
        · cases e; exact Rg.blk_free hg
      exact .inr ⟨b, off, rfl, hl, hS b rfl, hf, hr⟩
  · rcases h1'.2 with ⟨e1, _⟩ | ⟨g, cap', cur, e1, _⟩
    · injection e1
    · have e : oa = none := e
      rw [e] at e1
      cases e1
theorem runs_push {P : Program} (w : World) (t ty : TypeId)
    (base : Nat) (e : TypeId) (i : TypeInfo) (z : Value) (size bytes : Nat) (h1 : P.underlying t = some (.slice e)) (h2 : P.info? e = some i) (h3 : i.zero = some z) (h4 : i.size = size) (h5 : i.bytes = bytes) (h6 : z.cells.size = size) (h7 : 0 < size)
    (v : Value) (k : Nat) (xs : List Value) (hown : w.ownsRow base e size v k xs) (ad : Addr) (c : Nat) (news : List Value) (hn : news.length = size)
    (hc : ∀ j u, news[j]? = some u → w.cell? (ad.add j) = some u) (h1c : ∀ u ∈ news, u.oneCell' = true) (b1 : k + 1 ≤ maxLen) (b2 : (k + 1) * bytes ≤ 140737488355328) (b3 : base ≤ w.heap.size) :
    ∃ v' w', (Builtin.append_ #[t, t] ty #[v, .slice (some ad) 1 c]).run P w = .ok v' w' ∧ w'.ownsRow base e size v' (k + 1) (xs ++ news) ∧ Gz v w w' ∧ Moved v w v' := by
  have hn' : news.length = 1 * size := by rw [hn, Nat.one_mul]
  have weak : ∀ {v : Value} {w' : World}, w.grownBy w' none → Gz v w w' := fun h => ⟨h.os, h.tape, h.output, h.size, fun i hi _ => h.block i hi (by simp)⟩
  rcases hown.2 with ⟨rfl, h0⟩ | ⟨g, cap, cur, rfl, hb, hgh, hkc, hcm, hcs, htk⟩
  · subst h0
    have hxs : xs = [] := List.eq_nil_of_length_eq_zero (by rw [hown.1]; simp)
    subst hxs
    have hown' : w.ownsRow w.heap.size e size (.slice none 0 0) 0 [] := ⟨by simp, .inl ⟨rfl, rfl⟩⟩
    obtain ⟨v', w', hrun, r1, r2, _⟩ := run_append_own (P := P) w w.heap.size t ty e i z size bytes h1 h2 h3 h4 h5 h6 h7 _ 0 [] hown' ad 1 c news hn' hc h1c b1 b2 (Nat.le_refl _)
    exact ⟨v', w', hrun, own_mono r1 b3, weak r2, .inr fun g e => (World.ownsRow.lt r1 g e).1⟩
  · by_cases hr : k + 1 ≤ cap
    · obtain ⟨w', hrun, r1, r2⟩ := run_append_fits (P := P) w base t ty e i size h1 h2 h4 g k cap xs hown ad 1 c news hn' hc h1c hr
      exact ⟨_, w', hrun, r1, r2, .inl rfl⟩
    · obtain ⟨v', w', hrun, r1, r2⟩ := run_append_arg_grows (P := P) w t ty e i z size bytes h1 h2 h3 h4 h5 h6 h7 ⟨g, 0, none⟩ k cap xs hown.1 (fun j u hj => hown.cells (g := g) rfl j u hj) ad 1 c news hn' hc (by omega) b1 b2
      exact ⟨v', w', hrun, own_mono r1 b3, weak r2, .inr fun g e => (World.ownsRow.lt r1 g e).1⟩
structure KT (K : Kd α β) (t : TypeId) (bytes : Nat) : Prop where
  under : Try.prog.underlying t = some (.slice K.T)
  inf : (Try.prog.info? K.T).map (fun i => (i.zero.map (fun z => z.cells.size), i.size, i.bytes)) = some (some K.n, K.n, bytes)
  small : bytes ≤ 300
theorem KT.info {K : Kd α β} {t : TypeId} {bytes : Nat} (h : KT K t bytes) : ∃ i z, Try.prog.info? K.T = some i ∧ i.zero = some z ∧ i.size = K.n ∧ i.bytes = bytes ∧ z.cells.size = K.n := by
  have h := h.inf
  cases hi : Try.prog.info? K.T with
  | none => rw [hi] at h; cases h
  | some i =>
    rw [hi] at h
    simp only [Option.map_some, Option.some.injEq, Prod.mk.injEq] at h
    obtain ⟨h1, h2, h3⟩ := h
    cases hz : i.zero with
    | none => rw [hz] at h1; cases h1
    | some z =>
      rw [hz] at h1
      simp only [Option.map_some, Option.some.injEq] at h1
      exact ⟨i, z, rfl, hz, h2, h3, h1⟩
theorem KL.push {K : Kd α β} (hK : K.Ok) {t : TypeId} {bytes : Nat} (hT : KT K t bytes) (ty : TypeId) {S : Nat → Prop} {w : World} {v : Value} {ys : List β} (h : KL K S w v ys) (hn : ys.length ≤ 1000001) (hS : ∀ b, w.heap.size ≤ b → S b) {y : β} {r : α} (hy : K.E (fun b => S b ∧ v.ownBlock ≠ some b) w y r) {g c : Nat} {cs : Array Value} (hg : w.heap[g]? = some (.cells cs K.T (0, 0))) (hcs : cs.toList = K.f r) :
    ∃ v' w', (Builtin.append_ #[t, t] ty #[v, .slice (some ⟨g, 0, none⟩) 1 c]).run Try.prog w = .ok v' w' ∧ KL K S w' v' (ys ++ [y]) ∧ Gz v w w' ∧ Moved v w v' := by
  obtain ⟨rs, h1, hS0, h2⟩ := h
  obtain ⟨i, z, i1, i2, i3, i4, i5⟩ := hT.info
  have hsm := hT.small
  have hb2 : (ys.length + 1) * bytes ≤ 140737488355328 := by
    have : (ys.length + 1) * bytes ≤ 1000002 * 300 := Nat.mul_le_mul (by omega) hsm
    omega
  obtain ⟨v', w', hrun, r1, r2, r3⟩ := runs_push (P := Try.prog) w t ty 0 K.T i z K.n bytes hT.under i1 i2 i3 i4 i5 hK.enc.pos v ys.length (cellsF K.f rs) h1 ⟨g, 0, none⟩ c (K.f r) (hK.enc.len r) (fun j u hu => by
    rw [addN, Nat.zero_add, Rg.blk_cells hg, ← hcs] at *
    rw [← hu]
    simp) (hK.enc.one r) (by unfold maxLen; omega) hb2 (Nat.zero_le _)
  refine ⟨v', w', hrun, ⟨rs ++ [r], by rw [cellsF_snoc, List.length_append]; exact r1, fun b e => ?_, ?_⟩, r2, r3⟩
  · rcases r3 with hm | hm
    · rw [hm] at e; exact hS0 b e
    · exact hS b (hm b e)
  have hz := r2.size
  have hmv : ∀ b, b < w.heap.size → v.ownBlock ≠ some b → v'.ownBlock ≠ some b := fun b hb hv e => by
    rcases r3 with hm | hm
    · rw [hm] at e; exact hv e
    · have := hm b e; omega
  have hall := h2.snoc hy
  refine ((hall.mono hK (S' := fun b => S b ∧ v.ownBlock ≠ some b ∧ v'.ownBlock ≠ some b) (fun b hb hs => ⟨hs.1, hs.2, hmv b hb hs.2⟩)).of hK hz (fun b hs hl => r2.block b hl (fun e => hs.2.1 e.symm))).mono hK (fun b _ hs => ⟨hs.1, hs.2.2⟩)
theorem cells_cl {S : Nat → Prop} {w w' : World} (h : Cl S w w') {b : Nat} : ∀ (l : List Value) (o : Nat), (∀ j u, l[j]? = some u → w.cell? ⟨b, o + j, none⟩ = some u) → ∃ l', All2 l l' ∧ ∀ j u, l'[j]? = some u → w'.cell? ⟨b, o + j, none⟩ = some u
  | [], o, _ => ⟨[], rfl, fun j u hu => by simp at hu⟩
  | x :: l, o, hc => by
    obtain ⟨l', h1, h2⟩ := cells_cl h l (o + 1) (fun j u hu => by rw [show o + 1 + j = o + (j + 1) by omega]; exact hc (j + 1) u (by simpa using hu))
    obtain ⟨x', hx1, hx2⟩ := h.cell b o x (by simpa using hc 0 x rfl)
    refine ⟨x' :: l', ⟨x', l', rfl, hx2, h1⟩, fun j u hu => ?_⟩
    cases j with
    | zero => simp at hu; subst hu; simpa using hx1
    | succ j => rw [show o + (j + 1) = o + 1 + j by omega]; exact h2 j u (by simpa using hu)
theorem krow_cl {K : Kd α β} (hK : K.Ok) {S S' : Nat → Prop} {w w' : World} (h : Cl S' w w') {b off : Nat} : ∀ (rs : List α) (ys : List β) (i0 : Nat), Es K S w ys rs → (∀ k (hk : k < rs.length) j u, (K.f rs[k])[j]? = some u → w.cell? ⟨b, off + (i0 + k) * K.n + j, none⟩ = some u) →
    ∃ rs' : List α, Es K S w' ys rs' ∧ ∀ k (hk : k < rs'.length) j u, (K.f rs'[k])[j]? = some u → w'.cell? ⟨b, off + (i0 + k) * K.n + j, none⟩ = some u
  | [], ys, i0, he, _ => by
    have : ys = [] := List.eq_nil_of_length_eq_zero he.1.symm
    subst this
    exact ⟨[], Es.nil, fun k h1 => by simp at h1⟩
  | r :: rs, [], i0, he, _ => by have := he.1; simp at this
  | r :: rs, y :: ys, i0, he, hc => by
    have he' : Es K S w ys rs := ⟨by have := he.1; simpa using this, fun k h1 h2 => he.2 (k + 1) (Nat.succ_lt_succ h1) (Nat.succ_lt_succ h2)⟩
    obtain ⟨rs', h1, h3⟩ := krow_cl hK h rs ys (i0 + 1) he' (fun k hk j u hu => by
      have := hc (k + 1) (by simp; omega) j u (by simpa using hu)
      rw [show i0 + 1 + k = i0 + (k + 1) by omega]; exact this)
    obtain ⟨cs, c1, c2⟩ := cells_cl h (b := b) (K.f r) (off + i0 * K.n) (fun j u hu => by have := hc 0 (by simp) j u (by simpa using hu); simpa using this)
    obtain ⟨r', e1, e2⟩ := hK.cl h (he.2 0 (by simp) (by simp)) c1
    refine ⟨r' :: rs', ⟨by simp [h1.1], fun k a1 a2 => ?_⟩, fun k hk j u hu => ?_⟩
    · cases k with
      | zero => exact e1
      | succ k => exact h1.2 k (by simpa using a1) (by simpa using a2)
    · cases k with
      | zero =>
        simp only [List.getElem_cons_zero, Nat.add_zero] at hu ⊢
        rw [e2] at hu
        exact c2 j u hu
      | succ k =>
        have := h3 k (by simpa using hk) j u (by simpa using hu)
        rw [show i0 + (k + 1) = i0 + 1 + k by omega]; exact this
theorem KsAt.cl {K : Kd α β} (hK : K.Ok) {S S' : Nat → Prop} {w w' : World} {ys : List β} {s s' : Slc} (h : Cl S' w w') (hx : KsAt K S w ys s) (h1 : s'.oa = s.oa) (h2 : s'.n = s.n) (h3 : s.n ≤ s'.cap) : KsAt K S w' ys s' := by
  obtain ⟨a1, a2, rs, a3, a4⟩ := hx
  refine ⟨by rw [h2]; exact a1, ⟨by rw [h2]; exact h3, by rw [h2]; exact a2.2⟩, ?_⟩
  rw [h1]
  rcases a4 with rfl | ⟨b, off, e, hl, hs, hf, hr⟩
  · refine ⟨[], ⟨a3.1, fun k _ hk => by simp at hk⟩, .inl rfl⟩
  · obtain ⟨rs', k1, k2⟩ := krow_cl hK h (b := b) (off := off) rs ys 0 a3 (fun k hk j u hu => by rw [Nat.zero_add]; exact hr k hk j u hu)
    exact ⟨rs', k1, .inr ⟨b, off, e, Nat.lt_of_lt_of_le hl h.size, hs, fun j => (h.free b j hl).trans (hf j), fun k hk j u hu => by have := k2 k hk j u hu; rw [Nat.zero_add] at this; exact this⟩⟩
end Go.Proofs.Ytaogpifcfmjcbaa
end
section
namespace Go.Proofs.Ytaogpifcfmjcbaa
open Go.RowKit
set_option linter.unusedSimpArgs false
set_option linter.unusedVariables false
theorem All2.refl : ∀ l : List Value, All2 l l
  | [] => rfl
  | u :: us => ⟨u, us, rfl, .refl u, All2.refl us⟩
theorem SameV.int {k : IntKind} {n : Int} {v : Value} (h : SameV (.int k n) v) : v = .int k n := by
  rcases h with h | ⟨_, _, _, _, h, _⟩
  · exact h.symm
  · cases h
theorem SameV.str {s : ByteArray} {v : Value} (h : SameV (.string s) v) : v = .string s := by
  rcases h with h | ⟨_, _, _, _, h, _⟩
  · exact h.symm
  · cases h
theorem SameV.boo {b : Bool} {v : Value} (h : SameV (.bool b) v) : v = .bool b := by
  rcases h with h | ⟨_, _, _, _, h, _⟩
  · exact h.symm
  · cases h
theorem SameV.sli {oa : Option Addr} {n c : Nat} {v : Value} (h : SameV (.slice oa n c) v) (hc : n ≤ c) : ∃ c', v = .slice oa n c' ∧ n ≤ c' := by
  rcases h with h | ⟨_, _, _, _, h, h2, h3⟩
  · exact ⟨c, h.symm, hc⟩
  · cases h; exact ⟨_, h2, h3⟩
theorem form_cl {S S' : Nat → Prop} {w w' : World} {x : Ex} {r : XR} {l cs : List Value} (hc : Cl S' w w') (hx : Ex.At S w x r) (h : All2 (xF r ++ l) cs) : ∃ r' cs', Ex.At S w' x r' ∧ cs = xF r' ++ cs' ∧ All2 l cs' := by
  simp only [xF, List.cons_append, List.nil_append] at h
  obtain ⟨v0, l0, rfl, e0, v1, l1, rfl, e1, v2, l2, rfl, e2, v3, l3, rfl, e3, v4, l4, rfl, e4, v5, l5, rfl, e5, v6, l6, rfl, e6, v7, l7, rfl, e7, v8, l8, rfl, e8, v9, l9, rfl, e9, v10, l10, rfl, e10, v11, l11, rfl, e11, h⟩ := h
  obtain ⟨c', e11', hle⟩ := e11.sli hx.fits
  rw [e0.int, e1.int, e2.int, e3.str, e4.boo, e5.str, e6.str, e7.int, e8.int, e9.boo, e10.boo, e11']
  exact ⟨{ r with cap := c' }, l11, hx.cl hc ⟨rfl, rfl, rfl, hle⟩, rfl, h⟩
def kX : Kd XR Ex := ⟨xF, 12, 32, Ex.At⟩
theorem kX_ok : kX.Ok where
  enc := xE
  of := fun hz hb h => Ex.At.of hz hb h
  mono := fun hS h => h.mono hS
  cl := fun hc hx h => by
    obtain ⟨r', cs', h1, h2, h3⟩ := form_cl (l := []) hc hx (by rw [List.append_nil]; exact h)
    have : cs' = [] := h3
    exact ⟨r', h1, by rw [h2, this, List.append_nil]; rfl⟩
theorem es_x {S : Nat → Prop} {w : World} : ∀ {xs : List Ex} {rs : List XR}, Exs.At S w xs rs ↔ Es kX S w xs rs
  | [], rs => ⟨fun h => by unfold Exs.At at h; subst h; exact Es.nil, fun h => by have := List.eq_nil_of_length_eq_zero h.1; subst this; exact Exs.At.nil⟩
  | x :: xs, rs => by
    constructor
    · intro h
      unfold Exs.At at h
      obtain ⟨r, rr, rfl, h1, h2⟩ := h
      have h3 := es_x.1 h2
      refine ⟨by simp [h3.1], fun k a1 a2 => ?_⟩
      cases k with
      | zero => exact h1
      | succ k => exact h3.2 k (by simpa using a1) (by simpa using a2)
    · intro h
      cases rs with
      | nil => have := h.1; simp at this
      | cons r rr =>
        refine Exs.At.cons (h.2 0 (by simp) (by simp)) (es_x.2 ⟨by have := h.1; simpa using this, fun k a1 a2 => h.2 (k + 1) (Nat.succ_lt_succ a1) (Nat.succ_lt_succ a2)⟩)
theorem ks_x {S : Nat → Prop} {w : World} {xs : List Ex} {s : Slc} : XsAt S w xs s.oa s.n s.cap ↔ KsAt kX S w xs s := by
  unfold XsAt KsAt
  constructor
  · rintro ⟨h1, h2, rs, h3, h4, h5⟩
    exact ⟨h1, h2, rs, es_x.1 h5, h4⟩
  · rintro ⟨h1, h2, rs, h3, h4⟩
    exact ⟨h1, h2, rs, h3.1, h4, es_x.2 h3⟩
def cF (c : ColS) : List Value := [.string c.name, .int .i64 c.ty, .bool c.nn, .bool c.uq]
def kCol : Kd ColS ColS := ⟨cF, 4, 44, fun _ _ y r => r = y⟩
theorem kCol_ok : kCol.Ok where
  enc := ⟨fun _ => rfl, fun x u hu => by simp [kCol, cF] at hu; rcases hu with rfl | rfl | rfl | rfl <;> rfl, by decide⟩
  of := fun _ _ h => h
  mono := fun _ h => h
  cl := fun hc hx h => by
    obtain ⟨v0, l0, rfl, e0, v1, l1, rfl, e1, v2, l2, rfl, e2, v3, l3, rfl, e3, h⟩ := h
    have : l3 = [] := h
    rw [e0.str, e1.int, e2.boo, e3.boo, this]
    exact ⟨_, hx, rfl⟩
def sF (s : ByteArray) : List Value := [.string s]
def kStr : Kd ByteArray ByteArray := ⟨sF, 1, 9, fun _ _ y r => r = y⟩
theorem kStr_ok : kStr.Ok where
  enc := ⟨fun _ => rfl, fun x u hu => by simp [kStr, sF] at hu; subst hu; rfl, by decide⟩
  of := fun _ _ h => h
  mono := fun _ h => h
  cl := fun hc hx h => by
    obtain ⟨v0, l0, rfl, e0, h⟩ := h
    have : l0 = [] := h
    rw [e0.str, this]
    exact ⟨_, hx, rfl⟩
def lF (s : Slc) : List Value := [s.val]
def kRow : Kd Slc (List Ex) := ⟨lF, 1, 26, fun S w y r => KsAt kX S w y r⟩
theorem kRow_ok : kRow.Ok where
  enc := ⟨fun _ => rfl, fun x u hu => by simp [kRow, lF, Slc.val] at hu; subst hu; rfl, by decide⟩
  of := fun hz hb h => KsAt.of kX_ok h hz hb
  mono := fun hS h => KsAt.mono kX_ok h hS
  cl := fun {S S' w w' y r cs} hc hx h => by
    obtain ⟨v0, l0, rfl, e0, h⟩ := h
    have : l0 = [] := h
    obtain ⟨c', e1, hle⟩ := e0.sli hx.2.1.1
    rw [e1, this]
    exact ⟨⟨r.oa, r.n, c'⟩, KsAt.cl kX_ok hc hx rfl rfl hle, rfl⟩
structure ItR where
  star : Bool
  x : XR
  as_ : ByteArray
  name : ByteArray
def itF (r : ItR) : List Value := .bool r.star :: (xF r.x ++ [.string r.as_, .string r.name])
def kItem : Kd ItR ItemS := ⟨itF, 15, 84, fun S w y r => r.star = y.star ∧ r.as_ = y.as_ ∧ r.name = y.name ∧ Ex.At S w y.e r.x⟩
theorem kItem_ok : kItem.Ok where
  enc := ⟨fun _ => rfl, fun r u hu => by
    rcases List.mem_cons.1 hu with rfl | hu
    · rfl
    · rcases List.mem_append.1 hu with hu | hu
      · exact xE.one _ u hu
      · simp at hu; rcases hu with rfl | rfl <;> rfl, by decide⟩
  of := fun hz hb h => ⟨h.1, h.2.1, h.2.2.1, h.2.2.2.of hz hb⟩
  mono := fun hS h => ⟨h.1, h.2.1, h.2.2.1, h.2.2.2.mono hS⟩
  cl := fun {S S' w w' y r cs} hc hx h => by
    obtain ⟨v0, l0, rfl, e0, h⟩ := h
    obtain ⟨r', cs', h1, h2, h3⟩ := form_cl hc hx.2.2.2 h
    obtain ⟨v1, l1, rfl, e1, v2, l2, rfl, e2, h4⟩ := h3
    have : l2 = [] := h4
    rw [e0.boo, h2, e1.str, e2.str, this]
    exact ⟨⟨r.star, r', r.as_, r.name⟩, ⟨hx.1, hx.2.1, hx.2.2.1, h1⟩, rfl⟩
structure RfR where
  tab : ByteArray
  al : ByteArray
  x : XR
def rF (r : RfR) : List Value := .string r.tab :: .string r.al :: (xF r.x ++ [])
def kRef : Kd RfR RefS := ⟨rF, 14, 81, fun S w y r => r.tab = y.tab ∧ r.al = y.al ∧ Ex.At S w y.on_ r.x⟩
theorem kRef_ok : kRef.Ok where
  enc := ⟨fun _ => rfl, fun r u hu => by
    rcases List.mem_cons.1 hu with rfl | hu
    · rfl
    · rcases List.mem_cons.1 hu with rfl | hu
      · rfl
      · rw [List.append_nil] at hu
        exact xE.one _ u hu, by decide⟩
  of := fun hz hb h => ⟨h.1, h.2.1, h.2.2.of hz hb⟩
  mono := fun hS h => ⟨h.1, h.2.1, h.2.2.mono hS⟩
  cl := fun {S S' w w' y r cs} hc hx h => by
    obtain ⟨v0, l0, rfl, e0, v1, l1, rfl, e1, h⟩ := h
    obtain ⟨r', cs', h1, h2, h3⟩ := form_cl hc hx.2.2 h
    have : cs' = [] := h3
    rw [e0.str, e1.str, h2, this]
    exact ⟨⟨r.tab, r.al, r'⟩, ⟨hx.1, hx.2.1, h1⟩, rfl⟩
structure OrR where
  x : XR
  desc : Bool
def oF (r : OrR) : List Value := xF r.x ++ [.bool r.desc]
def kOrd : Kd OrR OrdS := ⟨oF, 13, 42, fun S w y r => r.desc = y.desc ∧ Ex.At S w y.e r.x⟩
theorem kOrd_ok : kOrd.Ok where
  enc := ⟨fun _ => rfl, fun r u hu => by
    rcases List.mem_append.1 hu with hu | hu
    · exact xE.one _ u hu
    · simp at hu; rcases hu with rfl; rfl, by decide⟩
  of := fun hz hb h => ⟨h.1, h.2.of hz hb⟩
  mono := fun hS h => ⟨h.1, h.2.mono hS⟩
  cl := fun {S S' w w' y r cs} hc hx h => by
    obtain ⟨r', cs', h1, h2, h3⟩ := form_cl hc hx.2 h
    obtain ⟨v1, l1, rfl, e1, h4⟩ := h3
    have : l1 = [] := h4
    rw [h2, e1.boo, this]
    exact ⟨⟨r', r.desc⟩, ⟨hx.1, h1⟩, rfl⟩
theorem kt_x : KT kX 26 128 := ⟨Try.underlying26, by kernel_rfl, by decide⟩
theorem kt_col : KT kCol 23 32 := ⟨Try.underlying23, by kernel_rfl, by decide⟩
theorem kt_str : KT kStr 24 16 := ⟨Try.underlying24, by kernel_rfl, by decide⟩
theorem kt_row : KT kRow 25 24 := ⟨Try.underlying25, by kernel_rfl, by decide⟩
theorem kt_item : KT kItem 27 168 := ⟨Try.underlying27, by kernel_rfl, by decide⟩
theorem kt_ref : KT kRef 28 160 := ⟨Try.underlying28, by kernel_rfl, by decide⟩
theorem kt_ord : KT kOrd 33 136 := ⟨Try.underlying33, by kernel_rfl, by decide⟩
structure SR where
  kind : Int := 0
  table : ByteArray := ⟨#[]⟩
  name : ByteArray := ⟨#[]⟩
  column : ByteArray := ⟨#[]⟩
  unique : Bool := false
  cols : Slc := {}
  columns : Slc := {}
  rows : Slc := {}
  sets : Slc := {}
  explain : Bool := false
  distinct : Bool := false
  items : Slc := {}
  refs : Slc := {}
  wher : XR := ⟨{ op := 0 }, none, 0, 0⟩
  having : XR := ⟨{ op := 0 }, none, 0, 0⟩
  group : Slc := {}
  order : Slc := {}
  limit : Int := 0
  offset : Int := 0
def SR.hd (r : SR) : List Value := [.int .i64 r.kind, .string r.table, .string r.name, .string r.column, .bool r.unique, r.cols.val, r.columns.val, r.rows.val, r.sets.val, .bool r.explain, .bool r.distinct, r.items.val, r.refs.val]
def SR.tl (r : SR) : List Value := [r.group.val, r.order.val, .int .i64 r.limit, .int .i64 r.offset]
def SR.cs (r : SR) : List Value := r.hd ++ (xF r.wher ++ (xF r.having ++ r.tl))
def SR.val (r : SR) : Value := .agg r.cs.toArray
set_option maxRecDepth 100000 in
theorem SR.len (r : SR) : r.cs.length = 41 := rfl
def zeroS : List Value := SR.cs {}
structure StmAt (S : Nat → Prop) (w : World) (x : Stm) (r : SR) : Prop where
  kind : r.kind = x.kind
  table : r.table = x.table
  name : r.name = x.name
  column : r.column = x.column
  unique : r.unique = x.unique
  cols : KsAt kCol S w x.cols r.cols
  columns : KsAt kStr S w x.columns r.columns
  rows : KsAt kRow S w x.rows r.rows
  sets : KsAt kX S w x.sets r.sets
  explain : r.explain = x.explain
  distinct : r.distinct = x.distinct
  items : KsAt kItem S w x.items r.items
  refs : KsAt kRef S w x.refs r.refs
  wher : Ex.At S w x.wher r.wher
  having : Ex.At S w x.having r.having
  group : KsAt kX S w x.group r.group
  order : KsAt kOrd S w x.order r.order
  limit : r.limit = x.limit
  offset : r.offset = x.offset
theorem noEx_at {S : Nat → Prop} {w : World} : Ex.At S w noEx ⟨{ op := 0 }, none, 0, 0⟩ := by
  unfold noEx Ex.At
  exact ⟨rfl, rfl, fit_le 0 (by decide), [], rfl, .inl rfl, Exs.At.nil⟩
theorem StmAt.zero {S : Nat → Prop} {w : World} : StmAt S w {} {} :=
  ⟨rfl, rfl, rfl, rfl, rfl, .none, .none, .none, .none, rfl, rfl, .none, .none, noEx_at, noEx_at, .none, .none, rfl, rfl⟩
theorem StmAt.of {S : Nat → Prop} {w w' : World} {x : Stm} {r : SR} (h : StmAt S w x r) (hz : w.heap.size ≤ w'.heap.size) (hb : ∀ b, S b → b < w.heap.size → w'.heap[b]? = w.heap[b]?) : StmAt S w' x r :=
  ⟨h.kind, h.table, h.name, h.column, h.unique, h.cols.of kCol_ok hz hb, h.columns.of kStr_ok hz hb, h.rows.of kRow_ok hz hb, h.sets.of kX_ok hz hb, h.explain, h.distinct, h.items.of kItem_ok hz hb, h.refs.of kRef_ok hz hb, h.wher.of hz hb, h.having.of hz hb, h.group.of kX_ok hz hb, h.order.of kOrd_ok hz hb, h.limit, h.offset⟩
theorem StmAt.mono {S S' : Nat → Prop} {w : World} {x : Stm} {r : SR} (h : StmAt S w x r) (hS : ∀ b, b < w.heap.size → S b → S' b) : StmAt S' w x r :=
  ⟨h.kind, h.table, h.name, h.column, h.unique, h.cols.mono kCol_ok hS, h.columns.mono kStr_ok hS, h.rows.mono kRow_ok hS, h.sets.mono kX_ok hS, h.explain, h.distinct, h.items.mono kItem_ok hS, h.refs.mono kRef_ok hS, h.wher.mono hS, h.having.mono hS, h.group.mono kX_ok hS, h.order.mono kOrd_ok hS, h.limit, h.offset⟩
def Rst (p : Nat) (w : World) (q : Stm × Ps) (u : Value) (w' : World) : Prop := ∃ r x, u = r.val ∧ StmAt (Nw w) w' x r ∧ PS p w' q.2 ∧ Go1 p w w' ∧ (q.2.good = true → x = q.1)
def Pst (p : Nat) (w : World) (q : Stm × Ps) (e : Ending) (w' : World) : Prop := ∃ u, e = .returned u ∧ Rst p w q u w'
structure SB (p : Nat) (w : World) (R0 S0 : Nat) (cs : List Value) (wl : World) : Prop where
  hp : p < w.heap.size
  hR : R0 = w.heap.size
  hS : R0 < S0
  z : wl.heap[R0]? = some (.cells zeroS.toArray 35 (0, 0))
  s : wl.heap[S0]? = some (.cells cs.toArray 35 (0, 0))
  g : Go1 p w wl
section
variable {p : Nat} {w : World} {R0 S0 : Nat} {cs : List Value} {wl w' : World}
theorem SB.lt (h : SB p w R0 S0 cs wl) : S0 < wl.heap.size := (Array.getElem?_eq_some_iff.1 h.s).1
theorem SB.go (h : SB p w R0 S0 cs wl) (hg : Go1 p wl w') : SB p w R0 S0 cs w' :=
  have hE := h.lt
  have h1 := h.hS
  have h0 := h.hR
  have hp := h.hp
  ⟨h.hp, h.hR, h.hS, by rw [hg.get (by omega) (by omega)]; exact h.z, by rw [hg.get hE (by omega)]; exact h.s, h.g.trans hg⟩
theorem SB.gr (h : SB p w R0 S0 cs wl) (hg : Gr wl w') : SB p w R0 S0 cs w' := h.go (.of hg)
theorem SB.low (h : SB p w R0 S0 cs wl) (hg : Go1 p w w') (hz : wl.heap.size ≤ w'.heap.size) (hb : ∀ b, b ≤ S0 → b ≠ p → b < wl.heap.size → w'.heap[b]? = wl.heap[b]?) : SB p w R0 S0 cs w' :=
  have hE := h.lt
  have h1 := h.hS
  have h0 := h.hR
  have hp := h.hp
  ⟨h.hp, h.hR, h.hS, by rw [hb R0 (by omega) (by omega) (by omega)]; exact h.z, by rw [hb S0 (Nat.le_refl _) (by omega) hE]; exact h.s, hg⟩
theorem SB.set (k : Nat) (u : Value) (h : SB p w R0 S0 cs wl) : SB p w R0 S0 (cs.set k u) (wl.setCell ⟨S0, k, none⟩ u) :=
  have h1 := h.hS
  have h0 := h.hR
  ⟨h.hp, h.hR, h.hS, by rw [Below.heap_setCell _ _ _ _ (by simp; omega)]; exact h.z, cells_set k u h.s, h.g.own (Go1.set S0 k wl u) (by omega)⟩
theorem SB.cell (h : SB p w R0 S0 cs wl) (k : Nat) : wl.cell? ⟨S0, k, none⟩ = cs[k]? := by rw [Rg.blk_cells h.s]; simp
theorem SB.start {w1 : World} (hpw : p < w.heap.size) (hg : Go1 p (w.alloc (.cells zeroS.toArray 35)) w1) (hs : w'.heap[w1.heap.size]? = some (.cells cs.toArray 35 (0, 0))) (hw : Go1 w1.heap.size (w1.alloc (.cells zeroS.toArray 35)) w') : SB p w w.heap.size w1.heap.size cs w' := by
  have hz := hg.size
  simp only [World.size_alloc] at hz
  have hA := (Gr.refl w1).alloc (.cells zeroS.toArray 35)
  refine ⟨hpw, rfl, by omega, ?_, hs, (((Go1.of ((Gr.refl w).alloc _)).trans hg).block2 hA).own hw (by omega)⟩
  rw [hw.get (by simp; omega) (by omega), hA.block _ (by omega), hg.get (by simp) (by omega)]
  exact alloc_at _ _
end
end Go.Proofs.Ytaogpifcfmjcbaa
end
section
namespace Go.Proofs.Ytaogpifcfmjcbaa
open Go.RowKit
set_option linter.unusedSimpArgs false
set_option linter.unusedVariables false
variable {α β : Type}
def mB (v : Value) (n : Nat) : Nat := match v with
  | .bool true => n + 1
  | _ => 0
def SpRel (K : Kd α β) (q : Pa β) (p N : Nat) (S : Nat → Prop) (R : List β × Ps) (b : Bool) (v : Value) (wr : World) : Prop :=
  ∃ ys l0 s n, KL K S wr v ys ∧ PS p wr s ∧ (if b then ys = l0 ∧ seps q n l0 s = R ∧ s.size + 1 ≤ n ∧ ys.length + s.size ≤ N else (s.good = true → ys = l0) ∧ (l0, s) = R ∧ ys.length ≤ N + 1)
theorem SpRel.start {K : Kd α β} {q : Pa β} {p N : Nat} {S : Nat → Prop} {R : List β × Ps} {wr : World} {s : Ps} (hps : PS p wr s) (hN : s.size ≤ N) (hR : sep q s = R) : SpRel K q p N S R true (.slice none 0 0) wr :=
  ⟨[], [], s, s.size + 1, KL.nil, hps, by rw [if_pos rfl]; exact ⟨rfl, hR, Nat.le_refl _, by simpa using hN⟩⟩
theorem SpRel.yes {K : Kd α β} {q : Pa β} {p N : Nat} {S : Nat → Prop} {R : List β × Ps} {v : Value} {wr : World} (h : SpRel K q p N S R true v wr) : ∃ ys s n, KL K S wr v ys ∧ PS p wr s ∧ seps q n ys s = R ∧ s.size + 1 ≤ n ∧ ys.length + s.size ≤ N := by
  obtain ⟨ys, l0, s, n, h1, h2, h3⟩ := h
  rw [if_pos rfl] at h3
  obtain ⟨rfl, h4, h5, h6⟩ := h3
  exact ⟨ys, s, n, h1, h2, h4, h5, h6⟩
theorem SpRel.no {K : Kd α β} {q : Pa β} {p N : Nat} {S : Nat → Prop} {R : List β × Ps} {v : Value} {wr : World} (h : SpRel K q p N S R false v wr) : ∃ ys, KL K S wr v ys ∧ PS p wr R.2 ∧ (R.2.good = true → ys = R.1) ∧ ys.length ≤ N + 1 := by
  obtain ⟨ys, l0, s, n, h1, h2, h3⟩ := h
  rw [if_neg (by decide)] at h3
  obtain ⟨h3, rfl, h5⟩ := h3
  exact ⟨ys, h1, h2, h3, h5⟩
theorem SpRel.next {K : Kd α β} {q : Pa β} (hni : NI q) {p N : Nat} {S : Nat → Prop} {R : List β × Ps} {v' : Value} {w7 : World} {ys : List β} {y : β} {s : Ps} {n : Nat} (hL : KL K S w7 v' (ys ++ [y])) (hps : PS p w7 ((q s).2.may 4 ⟨#[44]⟩).2) (hR : seps q n ys s = R) (hn : s.size + 1 ≤ n) (hN : ys.length + s.size ≤ N) (hy : (q s).2.good = true → y = (q s).1) :
    SpRel K q p N S R ((q s).2.is 4 ⟨#[44]⟩) v' w7 ∧ mB (.bool ((q s).2.is 4 ⟨#[44]⟩)) (lenAt p w7) < s.size + 1 := by
  cases n with
  | zero => omega
  | succ n =>
    have hsz := hni s
    unfold seps at hR
    simp only at hR
    cases hb : (q s).2.is 4 ⟨#[44]⟩ with
    | true =>
      have e2 : ((q s).2.may 4 ⟨#[44]⟩).2 = (q s).2.step := by simp [Ps.may, hb]
      obtain ⟨h1, h2, h3⟩ := is_step hb (by decide)
      rw [e2] at hps
      rw [hb, if_pos rfl] at hR
      have hyy := hy h3
      refine ⟨⟨ys ++ [y], ys ++ [(q s).1], (q s).2.step, n, hL, hps, ?_⟩, ?_⟩
      · rw [if_pos rfl]
        exact ⟨by rw [hyy], hR, by omega, by simp; omega⟩
      · show lenAt p w7 + 1 < _
        rw [lenAt_ps hps]; omega
    | false =>
      have e2 : ((q s).2.may 4 ⟨#[44]⟩).2 = (q s).2 := by simp [Ps.may, hb]
      rw [e2] at hps
      rw [hb, if_neg (by decide)] at hR
      refine ⟨⟨ys ++ [y], ys ++ [(q s).1], (q s).2, n, hL, hps, ?_⟩, Nat.succ_pos _⟩
      rw [if_neg (by decide)]
      exact ⟨fun h => by rw [hy h], hR, by simp; omega⟩
theorem KL.set {K : Kd α β} (hK : K.Ok) {S : Nat → Prop} {b k : Nat} {u : Value} {w : World} {v : Value} {ys : List β} (h : KL K S w v ys) (hb : ¬ S b) : KL K S (w.setCell ⟨b, k, none⟩ u) v ys := h.go hK (Go1.set b k w u) hb
structure Kp (p S0 : Nat) (v : Value) (w w' : World) : Prop where
  size : w.heap.size ≤ w'.heap.size
  block : ∀ b, b < w.heap.size → b ≠ p → b ≠ S0 → v.ownBlock ≠ some b → w'.heap[b]? = w.heap[b]?
theorem Kp.go {p S0 : Nat} {v : Value} {a b c : World} (h : Go1 p a b) (k : Kp p S0 v b c) : Kp p S0 v a c :=
  ⟨Nat.le_trans h.size k.size, fun i hi h1 h2 h3 => (k.block i (Nat.lt_of_lt_of_le hi h.size) h1 h2 h3).trans (h.get hi h1)⟩
theorem Kp.then {p S0 : Nat} {v : Value} {a b c : World} (h : Kp p S0 v a b) (k : Go1 p b c) : Kp p S0 v a c :=
  ⟨Nat.le_trans h.size k.size, fun i hi h1 h2 h3 => (k.get (Nat.lt_of_lt_of_le hi h.size) h1).trans (h.block i hi h1 h2 h3)⟩
theorem Moved.go {v v' : Value} {w w' : World} (h : Moved v w' v') (hz : w.heap.size ≤ w'.heap.size) : Moved v w v' := by
  rcases h with h | h
  · exact .inl h
  · exact .inr fun g e => Nat.le_trans hz (h g e)
theorem KL.form {K : Kd α β} {S : Nat → Prop} {w : World} {v : Value} {ys : List β} (h : KL K S w v ys) (h0 : 0 < ys.length) : ∃ g m c, v = .slice (some ⟨g, 0, none⟩) m c := by
  obtain ⟨rs, h1, _⟩ := h
  obtain ⟨g, cap, e, _⟩ := own_form h1 h0
  exact ⟨g, _, cap, e⟩
theorem SB.push {K : Kd α β} (hK : K.Ok) {t : TypeId} {bytes : Nat} (hT : KT K t bytes) (ty : TypeId) {p : Nat} {w W : World} {R0 S0 k : Nat} {S : Nat → Prop} {cs : List Value} {v : Value} {ys : List β} {y : β} {r : α} {s : Ps} {cl : Array Value}
    (hS1 : ∀ b, S b → S0 + 1 ≤ b) (hS2 : ∀ b, W.heap.size ≤ b → S b) (hW : SB p w R0 S0 (cs.set k v) W) (hk : k < cs.length) (hL : KL K S W v ys) (hn : ys.length ≤ 1000000) (hps : PS p W s) (hy : K.E (fun b => S b ∧ v.ownBlock ≠ some b) W y r) (hcl : cl.toList = K.f r) :
    ∃ v' w6, (Builtin.append_ #[t, t] ty #[v, .slice (some ⟨W.heap.size, 0, none⟩) 1 1]).run Try.prog (W.alloc (.cells cl K.T)) = .ok v' w6 ∧ w6.cell? ⟨S0, k, none⟩ = some v ∧ (∀ i, w6.frozen? ⟨S0, i, none⟩ = false) ∧
      SB p w R0 S0 (cs.set k v') (w6.setCell ⟨S0, k, none⟩ v') ∧ KL K S (w6.setCell ⟨S0, k, none⟩ v') v' (ys ++ [y]) ∧ PS p (w6.setCell ⟨S0, k, none⟩ v') s ∧ (∃ g m c, v' = .slice (some ⟨g, 0, none⟩) m c) ∧ Kp p S0 v W (w6.setCell ⟨S0, k, none⟩ v') ∧ Moved v W v' := by
  have hlt := hW.lt
  have h1 := hW.hS
  have h0 := hW.hR
  have hp := hW.hp
  have hA := (Gr.refl W).alloc (.cells cl K.T)
  have hL' := hL.gr hK hA
  obtain ⟨v', w6, hrun, r1, r2, r3⟩ := hL'.push hK hT ty (by omega) (fun b hb => hS2 b (by simp at hb; omega)) (hK.of hA.size (fun b _ hl => hA.block b hl) hy) (alloc_at W (.cells cl K.T)) hcl
  have hz := r2.size
  simp only [World.size_alloc] at hz
  have keepV : ∀ b, b < W.heap.size → v.ownBlock ≠ some b → w6.heap[b]? = W.heap[b]? := fun b hb hv => by
    rw [r2.block b (by simp; omega) (fun e => hv e.symm), hA.block _ hb]
  have keepB : ∀ b, b < S0 + 1 → w6.heap[b]? = W.heap[b]? := fun b hb => keepV b (by omega) (fun e => by have := hS1 b (hL'.blk e).1; omega)
  have hSB6 : SB p w R0 S0 (cs.set k v) w6 := hW.low ((hW.g.block2 hA).trans' r2 (fun g e => by have := hS1 g (hL'.blk e).1; omega)) (by omega) (fun b hb _ hl => keepB b (by omega))
  have hps6 : PS p w6 s := hps.low (by omega) (fun i hi hl => keepB i (by omega))
  have hnS : ¬ S S0 := fun h => by have := hS1 _ h; omega
  refine ⟨v', w6, hrun, ?_, ?_, ?_, ?_, ?_, r1.form (by simp), ⟨by simp; omega, fun b hb h1 h2 h3 => ?_⟩, r3.go hA.size⟩
  · rw [hSB6.cell k, List.getElem?_set_self hk]
  · exact Rg.blk_free hSB6.s
  · have := hSB6.set k v'
    rw [List.set_set] at this
    exact this
  · exact r1.set hK hnS
  · exact hps6.go (Go1.set S0 k w6 v') (by omega)
  · rw [Below.heap_setCell _ _ _ _ (by simp; omega)]
    exact keepV b hb h3
structure XB (p : Nat) (w2 : World) (T : TypeId) (cs : List Value) (s : Ps) (W : World) : Prop where
  hp : p < w2.heap.size
  x : W.heap[w2.heap.size]? = some (.cells cs.toArray T (0, 0))
  g : Go1 p w2 W
  ps : PS p W s
section
variable {p : Nat} {w2 : World} {T : TypeId} {cs : List Value} {s s' : Ps} {W W' : World}
theorem XB.start {zs : Array Value} (hp : p < w2.heap.size) (hps : PS p w2 s) (hW : W.heap[w2.heap.size]? = some (.cells cs.toArray T (0, 0))) (hg : Go1 w2.heap.size (w2.alloc (.cells zs T)) W) : XB p w2 T cs s W := by
  have hA := (Gr.refl w2).alloc (.cells zs T)
  exact ⟨hp, hW, ((Go1.of hA).own hg (Nat.le_refl _)), (hps.keep hA).go hg hp⟩
theorem XB.go (h : XB p w2 T cs s W) (hps : PS p W' s') (hg : Go1 p W W') : XB p w2 T cs s' W' := by
  have hl := (Array.getElem?_eq_some_iff.1 h.x).1
  exact ⟨h.hp, by rw [hg.get hl (by have := h.hp; omega)]; exact h.x, h.g.trans hg, hps⟩
theorem XB.set (h : XB p w2 T cs s W) (k : Nat) (u : Value) : XB p w2 T (cs.set k u) s (W.setCell ⟨w2.heap.size, k, none⟩ u) :=
  ⟨h.hp, cells_set k u h.x, h.g.own (Go1.set _ k W u) (Nat.le_refl _), h.ps.go (Go1.set _ k W u) h.hp⟩
theorem XB.cell (h : XB p w2 T cs s W) (k : Nat) : W.cell? ⟨w2.heap.size, k, none⟩ = cs[k]? := by rw [Rg.blk_cells h.x]; simp
end
end Go.Proofs.Ytaogpifcfmjcbaa
end
section
namespace Go.Proofs.Ytaogpifcfmjcbaa
open Go.RowKit
set_option linter.unusedSimpArgs false
set_option linter.unusedVariables false
variable {α β : Type}
def RK (K : Kd α β) (V : α → Value) (p : Nat) (q : β × Ps) (W0 : World) (u : Value) (W : World) : Prop := ∃ r y, u = V r ∧ K.E (Nw W0) W y r ∧ PS p W q.2 ∧ Go1 p W0 W ∧ (q.2.good = true → y = q.1)
structure PuH (K : Kd α β) (p : Nat) (w : World) (R0 S0 k : Nat) (S : Nat → Prop) (cs : List Value) (v : Value) (ys : List β) (w3 : World) : Prop where
  sb : SB p w R0 S0 (cs.set k v) w3
  kl : KL K S w3 v ys
  hS1 : ∀ b, S b → S0 + 1 ≤ b
  hS2 : ∀ b, w3.heap.size ≤ b → S b
  hk : k < cs.length
  hn : ys.length ≤ 1000000
def PuS (K : Kd α β) (V : α → Value) (p : Nat) (w : World) (R0 S0 k : Nat) (S : Nat → Prop) (cs : List Value) (v : Value) (ys : List β) (q : β × Ps) (w3 : World) (i : Nat) : Nat → (Nat → Value) → World → Prop
  | 0, _, W => Gr w3 W
  | 1, x, W => ∃ W0, Gr w3 W0 ∧ RK K V p q W0 (x i) W
  | 2, x, W => ∃ W0 W1 r y cl, Gr w3 W0 ∧ K.E (Nw W0) W1 y r ∧ PS p W1 q.2 ∧ Go1 p W0 W1 ∧ (q.2.good = true → y = q.1) ∧ cl.toList = K.f r ∧ W = W1.alloc (.cells cl K.T) ∧ x (i + 1) = .slice (some ⟨W1.heap.size, 0, none⟩) 1 1
  | _, x, W => ∃ g m c y, x (i + 2) = .slice (some ⟨g, 0, none⟩) m c ∧ W.cell? ⟨S0, k, none⟩ = some v ∧ (∀ j, W.frozen? ⟨S0, j, none⟩ = false) ∧ (q.2.good = true → y = q.1) ∧
      SB p w R0 S0 (cs.set k (x (i + 2))) (W.setCell ⟨S0, k, none⟩ (x (i + 2))) ∧ KL K S (W.setCell ⟨S0, k, none⟩ (x (i + 2))) (x (i + 2)) (ys ++ [y]) ∧ PS p (W.setCell ⟨S0, k, none⟩ (x (i + 2))) q.2 ∧ Kp p S0 v w3 (W.setCell ⟨S0, k, none⟩ (x (i + 2))) ∧ Moved v w3 (x (i + 2))
section
variable {K : Kd α β} {V : α → Value} {p : Nat} {w : World} {R0 S0 k : Nat} {S : Nat → Prop} {cs : List Value} {v : Value} {ys : List β} {q : β × Ps} {w3 : World} {i s : Nat} {x : Nat → Value} {W W' : World}
abbrev PuSH (h : PuH K p w R0 S0 k S cs v ys w3) (V : α → Value) (q : β × Ps) (i : Nat) : Nat → (Nat → Value) → World → Prop := PuS K V p w R0 S0 k S cs v ys q w3 i
theorem PuS.s0 (h : Gr w3 W) : PuS K V p w R0 S0 k S cs v ys q w3 i 0 x W := h
theorem PuS.low (hs : s ≤ 2) (h : PuS K V p w R0 S0 k S cs v ys q w3 i s x W) : Go1 p w3 W := by
  match s, h with
  | 0, h => exact .of h
  | 1, h => obtain ⟨W0, h1, _, _, _, _, _, h2, _⟩ := h; exact (Go1.of h1).trans h2
  | 2, h => obtain ⟨W0, W1, r, y, cl, h1, _, _, h2, _, _, rfl, _⟩ := h; exact ((Go1.of h1).trans h2).block2 ((Gr.refl _).alloc _)
  | s + 3, h => omega
theorem PuS.cell (hH : PuH K p w R0 S0 k S cs v ys w3) (hs : s ≤ 2) (h : PuS K V p w R0 S0 k S cs v ys q w3 i s x W) : W.cell? ⟨S0, k, none⟩ = some v := by
  have hsb := hH.sb.go (h.low hs)
  rw [hsb.cell k, List.getElem?_set_self hH.hk]
theorem PuS.call {u : Value} (h : PuS K V p w R0 S0 k S cs v ys q w3 i 0 x W) (hR : RK K V p q W u W') : PuS K V p w R0 S0 k S cs v ys q w3 i 1 (Rg.upd x i u) W' :=
  ⟨W, h, by rw [upd_same]; exact hR⟩
theorem PuS.g1 (h : PuS K V p w R0 S0 k S cs v ys q w3 i 1 x W) : ∃ r, x i = V r ∧ ∀ cl : Array Value, cl.toList = K.f r → PuS K V p w R0 S0 k S cs v ys q w3 i 2 (Rg.upd x (i + 1) (.slice (some ⟨W.heap.size, 0, none⟩) 1 1)) (W.alloc (.cells cl K.T)) := by
  obtain ⟨W0, h0, r, y, h1, h2, h3, h4, h5⟩ := h
  exact ⟨r, h1, fun cl hcl => ⟨W0, W, r, y, cl, h0, h2, h3, h4, h5, hcl, rfl, upd_same _ _ _⟩⟩
theorem PuS.append (hK : K.Ok) {t : TypeId} {bytes : Nat} (hT : KT K t bytes) (ty : TypeId) (hH : PuH K p w R0 S0 k S cs v ys w3) (h : PuS K V p w R0 S0 k S cs v ys q w3 i 2 x W) :
    ∃ v2 v' W', x (i + 1) = v2 ∧ (Builtin.append_ #[t, t] ty #[v, v2]).run Try.prog W = .ok v' W' ∧ PuS K V p w R0 S0 k S cs v ys q w3 i 3 (Rg.upd x (i + 2) v') W' := by
  obtain ⟨W0, W1, r, y, cl, h0, h1, h2, h3, h4, h5, rfl, h6⟩ := h
  have hg := (Go1.of h0).trans h3
  have hp := hH.sb.hp
  have hR := hH.sb.hR
  have hS := hH.sb.hS
  have hsb := hH.sb.go hg
  have hkl := hH.kl.go hK hg (fun h => by have := hH.hS1 _ h; omega)
  have hlt := hH.sb.lt
  have hz0 := h0.size
  have hy : K.E (fun b => S b ∧ v.ownBlock ≠ some b) W1 y r := hK.mono (fun b _ hb => by
    have hb : W0.heap.size ≤ b := hb
    refine ⟨hH.hS2 b (by omega), fun e => ?_⟩
    have := (hH.kl.blk e).2
    omega) h1
  obtain ⟨v', w6, hrun, c1, c2, c3, c4, c5, ⟨g, m, c, rfl⟩, c6, c7⟩ := SB.push hK hT ty hH.hS1 (fun b hb => hH.hS2 b (Nat.le_trans hg.size hb)) hsb hH.hk hkl hH.hn h2 hy h5
  refine ⟨_, _, w6, h6, hrun, ⟨g, m, c, y, ?_⟩⟩
  rw [upd_same]
  exact ⟨rfl, c1, c2, h4, c3, c4, c5, Kp.go hg c6, c7.go hg.size⟩
theorem PuS.g3 (h : PuS K V p w R0 S0 k S cs v ys q w3 i 3 x W) : ∃ g m c y, x (i + 2) = .slice (some ⟨g, 0, none⟩) m c ∧ W.cell? ⟨S0, k, none⟩ = some v ∧ (∀ j, W.frozen? ⟨S0, j, none⟩ = false) ∧ (q.2.good = true → y = q.1) ∧
      SB p w R0 S0 (cs.set k (.slice (some ⟨g, 0, none⟩) m c)) (W.setCell ⟨S0, k, none⟩ (.slice (some ⟨g, 0, none⟩) m c)) ∧ KL K S (W.setCell ⟨S0, k, none⟩ (.slice (some ⟨g, 0, none⟩) m c)) (.slice (some ⟨g, 0, none⟩) m c) (ys ++ [y]) ∧ PS p (W.setCell ⟨S0, k, none⟩ (.slice (some ⟨g, 0, none⟩) m c)) q.2 ∧ Kp p S0 v w3 (W.setCell ⟨S0, k, none⟩ (.slice (some ⟨g, 0, none⟩) m c)) ∧ Moved v w3 (.slice (some ⟨g, 0, none⟩) m c) := by
  obtain ⟨g, m, c, y, h1, h2, h3, h4, h5, h6, h7, h8, h9⟩ := h
  rw [h1] at h5 h6 h7 h8 h9
  exact ⟨g, m, c, y, h1, h2, h3, h4, h5, h6, h7, h8, h9⟩
end
theorem RK.name {p : Nat} {s : Ps} {w : World} : ∀ {e : Ending} {w' : World}, Pm p w (.string s.name.1) s.name.2 e w' → ∃ u, e = .returned u ∧ RK kStr .string p s.name w u w' := by
  rintro e w' ⟨rfl, h1, h2⟩
  exact ⟨_, rfl, s.name.1, s.name.1, rfl, rfl, h1, h2, fun _ => rfl⟩
theorem RK.form {p : Nat} {q : Ex × Ps} {w : World} : ∀ {e : Ending} {w' : World}, Px p w q e w' → ∃ u, e = .returned u ∧ RK kX XR.val p q w u w' := by
  rintro e w' ⟨u, rfl, r, x, rfl, h1, h2, h3, h4⟩
  exact ⟨_, rfl, r, x, rfl, h1, h2, h3, h4⟩
theorem RK.row {p : Nat} {q : List Ex × Ps} {w : World} : ∀ {e : Ending} {w' : World}, Pxs p w q e w' → ∃ u, e = .returned u ∧ RK kRow Slc.val p q w u w' := by
  rintro e w' ⟨u, rfl, oa, n, cap, xs, rfl, h1, h2, h3, _, _, h4⟩
  exact ⟨_, rfl, ⟨oa, n, cap⟩, xs, rfl, ks_x.1 h1, h2, h3, h4⟩
end Go.Proofs.Ytaogpifcfmjcbaa
end
