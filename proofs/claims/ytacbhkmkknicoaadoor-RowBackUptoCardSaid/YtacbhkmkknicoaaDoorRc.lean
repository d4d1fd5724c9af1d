/- A region that draws its order and in which some operations, each waiting for those before it, change the world from stage to stage; the others bring one value at any stage. -/
import Derived.Test.YtacbhkmkknicoaaDoorRx
namespace Go.Rg
open Go Go.RowKit
set_option linter.unusedSimpArgs false
set_option linter.unusedVariables false
/-- how many of Cs lie before m -/
def cnt (Cs : List Nat) : Nat → Nat
  | 0 => 0
  | m + 1 => cnt Cs m + (if Cs.contains m then 1 else 0)
theorem cnt_le (Cs : List Nat) : ∀ {i j : Nat}, i ≤ j → cnt Cs i ≤ cnt Cs j
  | i, 0, h => by have : i = 0 := by omega
                  subst this; exact Nat.le_refl _
  | i, j + 1, h => by
    by_cases e : i = j + 1
    · rw [e]; exact Nat.le_refl _
    · have := cnt_le Cs (i := i) (j := j) (by omega)
      simp only [cnt]; omega
theorem cnt_lt {Cs : List Nat} {i j : Nat} (hi : Cs.contains i = true) (h : i < j) : cnt Cs i < cnt Cs j := by
  have h1 := cnt_le Cs (i := i + 1) (j := j) h
  simp only [cnt, hi, if_true] at h1
  omega
theorem cnt_hit {Cs : List Nat} : ∀ {j s : Nat}, s < cnt Cs j → ∃ i, i < j ∧ Cs.contains i = true ∧ cnt Cs i = s
  | 0, s, h => by simp [cnt] at h
  | j + 1, s, h => by
    by_cases h1 : s < cnt Cs j
    · obtain ⟨i, a, b, c⟩ := cnt_hit h1
      exact ⟨i, by omega, b, c⟩
    · simp only [cnt] at h
      split at h
      · rename_i hc
        exact ⟨j, by omega, hc, by omega⟩
      · omega
/-- a result that R tells of -/
def BringsS (P : Program) (R : Value → World → Prop) : Result Next → Prop
  | .ok (.value u) w => R u w
  | .ok .skip w => R undef w
  | .ok (.enter f args) w => Calls P f args w fun e w' => ∃ u, e = .returned u ∧ R u w'
  | _ => False
theorem bringsS_value {P : Program} {R : Value → World → Prop} {u : Value} {w : World} : BringsS P R (.ok (.value u) w) = R u w := rfl
theorem bringsS_skip {P : Program} {R : Value → World → Prop} {w : World} : BringsS P R (.ok .skip w) = R undef w := rfl
theorem bringsS_enter {P : Program} {R : Value → World → Prop} {f : FuncId} {args : Array Value} {w : World} : BringsS P R (.ok (.enter f args) w) = Calls P f args w fun e w' => ∃ u, e = .returned u ∧ R u w' := rfl
/-- a result that is the value v and leaves the world -/
def Still (w0 : World) (v : Value) : Result Next → Prop
  | .ok (.value u) w => u = v ∧ w = w0
  | .ok .skip w => undef = v ∧ w = w0
  | _ => False
theorem still_value {v u : Value} {w0 w : World} : Still w0 v (.ok (.value u) w) = (u = v ∧ w = w0) := rfl
theorem still_skip {v : Value} {w0 w : World} : Still w0 v (.ok .skip w) = (undef = v ∧ w = w0) := rfl
theorem still_enter {v : Value} {w0 w : World} {f : FuncId} {args : Array Value} : Still w0 v (.ok (.enter f args) w) = False := rfl
section
variable (P : Program) (ops : Array Oper) (Cs : List Nat) (Ws : List (Nat × Nat)) (St : Nat → (Nat → Value) → World → Prop)
/-- an operation that one of Cs waits for is done ahead of that -/
def limC (i s : Nat) : Prop := ∀ k, (i, k) ∈ Ws → s ≤ cnt Cs k
def StepC (v : Nat → Value) (c : Option Value) (i s : Nat) (o : Oper) (a : Act) : Prop :=
  if Cs.contains i then Region.wanted o (yielded ops a.tmps) = true ∧ ∀ w, St s v w → BringsS P (fun u w' => match c with
      | some c => u = c ∧ St (s + 1) v w'
      | none => St (s + 1) (upd v i u) w') ((execOp a.eval o).run P w)
  else match c with
    | some c => (Region.wanted o (yielded ops a.tmps) = true ∧ ∀ s w, limC Cs Ws i s → St s v w → Still w c ((execOp a.eval o).run P w)) ∨ (Region.wanted o (yielded ops a.tmps) = false ∧ c = undef)
    | none => False
def wpC (v : Nat → Value) (L : Nat → Act → Prop) : Nat → List (Option Value) → List Oper → Nat → Act → Prop
  | s, [], [], _, a => L s a
  | s, c :: K, o :: r, i, a => StepC P ops Cs Ws St v c i s o a ∧ wpC v L (s + (if Cs.contains i then 1 else 0)) K r (i + 1) (a.put o.dst (c.getD (v i)))
  | _, _, _, _, _ => False
end
section
variable {P : Program} {ops : Array Oper} {Cs : List Nat} {Ws : List (Nat × Nat)} {St : Nat → (Nat → Value) → World → Prop} {v : Nat → Value} {L : Nat → Act → Prop}
theorem wpC_len : ∀ (K : List (Option Value)) (l : List Oper) (s i : Nat) (a : Act), wpC P ops Cs Ws St v L s K l i a → K.length = l.length
  | [], [], _, _, _, _ => rfl
  | c :: K, o :: r, s, i, a, h => by simp only [List.length_cons]; rw [wpC_len K r _ _ _ h.2]
  | [], _ :: _, _, _, _, h => h.elim
  | _ :: _, [], _, _, _, h => h.elim
theorem wpC_at : ∀ (K : List (Option Value)) (l : List Oper) (i : Nat) (a : Act) (f : Nat → Value), wpC P ops Cs Ws St v L (cnt Cs i) K l i a → (∀ k, k < l.length → f (i + k) = ((K[k]?).getD none).getD (v (i + k))) →
    ∀ m o, l[m]? = some o → StepC P ops Cs Ws St v ((K[m]?).getD none) (i + m) (cnt Cs (i + m)) o (putL (fun j => decide (j < i + m)) f l i a)
  | [], [], _, _, _, _, _, m, o, h => by simp at h
  | c :: K, o0 :: r, i, a, f, h, hf, 0, o, ho => by
    have e0 : o0 = o := by simpa using ho
    subst e0
    have e1 : putL (fun j => decide (j < i + 0)) f (o0 :: r) i a = a := putL_none _ _ _ (fun k _ => by simp)
    rw [e1]
    simpa using h.1
  | c :: K, o0 :: r, i, a, f, h, hf, m + 1, o, ho => by
    have h2 := wpC_at K r (i + 1) _ f h.2 (fun k hk => by have := hf (k + 1) (by simp; omega); rw [show i + 1 + k = i + (k + 1) by omega]; simpa using this) m o (by simpa using ho)
    have h0 := hf 0 (by simp)
    simp at h0
    unfold putL
    have e : (if decide (i < i + (m + 1)) then a.put o0.dst (f i) else a) = a.put o0.dst (c.getD (v i)) := by
      rw [if_pos (by simp), h0]
    rw [e, show i + (m + 1) = i + 1 + m by omega]
    simpa using h2
  | [], _ :: _, _, _, _, h, _, _, _, _ => h.elim
  | _ :: _, [], _, _, _, h, _, _, _, _ => h.elim
theorem wpC_end : ∀ (K : List (Option Value)) (l : List Oper) (i : Nat) (a : Act) (f : Nat → Value), wpC P ops Cs Ws St v L (cnt Cs i) K l i a → (∀ k, k < l.length → f (i + k) = ((K[k]?).getD none).getD (v (i + k))) →
    L (cnt Cs (i + l.length)) (putL (fun _ => true) f l i a)
  | [], [], _, _, _, h, _ => h
  | c :: K, o0 :: r, i, a, f, h, hf => by
    have h2 := wpC_end K r (i + 1) _ f h.2 (fun k hk => by have := hf (k + 1) (by simp; omega); rw [show i + 1 + k = i + (k + 1) by omega]; simpa using this)
    have h0 := hf 0 (by simp)
    simp at h0
    unfold putL
    simp only [if_true, h0]
    rw [show i + (o0 :: r).length = i + 1 + r.length by simp; omega]
    exact h2
  | [], _ :: _, _, _, _, h, _ => h.elim
  | _ :: _, [], _, _, _, h, _ => h.elim
end
/-- j waits for i, by way of others -/
def rch (md : Region.Mode) (ops : Array Oper) : Nat → Nat → Nat → Bool
  | 0, _, _ => false
  | f + 1, j, i => match ops[j]? with
    | some o => o.after.any fun e => Region.binds md e && (e.on == i || rch md ops f e.on i)
    | none => false
theorem rch_spec {md : Region.Mode} {ops : Array Oper} {n : Nat} {listed : Array Bool} (inv : HeadInv md ops n listed) : ∀ (f j i : Nat), rch md ops f j i = true → (listed.getD j false = true ∨ j ∈ Region.ready md ops listed) → listed.getD i false = true
  | 0, j, i, h, _ => by cases h
  | f + 1, j, i, h, hj => by
    unfold rch at h
    split at h
    · rename_i o ho
      obtain ⟨e, he, hbe⟩ := Array.any_eq_true'.1 h
      simp only [Bool.and_eq_true, Bool.or_eq_true, beq_iff_eq] at hbe
      have hon : listed.getD e.on false = true := by
        rcases hj with hj | hj
        · exact inv.closed j o ho hj e he hbe.1
        · obtain ⟨_, o2, ho2, hall⟩ := mem_ready.1 hj
          have : o2 = o := Option.some.inj (ho2.symm.trans ho)
          subst this
          exact hall e he hbe.1
      rcases hbe.2 with h2 | h2
      · rw [← h2]; exact hon
      · exact rch_spec inv f e.on i h2 (.inl hon)
    · cases h
/-- each of Cs waits for those of Cs before it -/
def chB (md : Region.Mode) (ops : Array Oper) (Cs : List Nat) : Bool := Cs.all fun j => Cs.all fun i => decide (j ≤ i) || rch md ops ops.size j i
/-- the pairs of Ws: the second is of Cs and waits for the first -/
def lmB (md : Region.Mode) (ops : Array Oper) (n : Nat) (Cs : List Nat) (Ws : List (Nat × Nat)) : Bool := Ws.all fun p => Cs.contains p.2 && decide (p.2 < n) && rch md ops ops.size p.2 p.1
section
variable {P : Program} {ops : Array Oper} {md : Region.Mode} {Q : Exit → Act → World → Prop}
section
variable {l : List Oper} {n : Nat} {Cs : List Nat} {Ws : List (Nat × Nat)} {St : Nat → (Nat → Value) → World → Prop} {K : List (Option Value)} {a0 : Act}
theorem region_chain0 {id : Nat} {w : World} (n : Nat) (Cs : List Nat) (Ws : List (Nat × Nat)) (St : Nat → (Nat → Value) → World → Prop) (K : List (Option Value))
    (hW : ∀ v, St 0 v { w with drawn := w.drawn + 1 }) (hm : P.follows .mixedOrders = true) (hB : typedB l n [] [] [] = true) (hC : chB .any l.toArray Cs = true) (hL : lmB .any l.toArray n Cs Ws = true)
    (hQ : ∀ c (a : Act) d u w, Q (.panic c) (a.put d u) w → Q (.panic c) a w)
    (h : ∀ v : Nat → Value, wpC P l.toArray Cs Ws St v (fun s a' => ∀ w', St s v w' → wpList P l.toArray Q (l.drop n) a' w') 0 K (l.take n) 0 a0) :
    (Code.region id l.toArray true).wp P Q a0 w := by
  simp only [typedB, Bool.and_eq_true, decide_eq_true_eq] at hB
  obtain ⟨⟨⟨⟨⟨⟨hDF, hsel⟩, hn'⟩, hs⟩, hc⟩, hall⟩, hseq⟩ := hB
  have hn : n < l.toArray.size := by simpa using hn'
  have hselS := Region.noSelect_spec hsel
  have one : ∀ i, i < n → ∀ o, l.toArray[i]? = some o → OneB .any l.toArray l (l.take n) n [] [] o i := fun i hi o ho => by
    have h1 : (l.take n)[i]? = some o := by rw [List.getElem?_take_of_lt hi]; simpa using ho
    have := allB_spec (l.take n) 0 hall i o h1
    rwa [Nat.zero_add] at this
  have take_at : ∀ i o, (l.take n)[i]? = some o → i < n ∧ l.toArray[i]? = some o := fun i o ho => by
    have hi : i < n := by
      have := (List.getElem?_eq_some_iff.1 ho).1
      simp at this; omega
    rw [List.getElem?_take_of_lt hi] at ho
    exact ⟨hi, by simpa using ho⟩
  have hlen : ∀ v, K.length = (l.take n).length := fun v => wpC_len K _ 0 0 a0 (h v)
  have htl : (l.take n).length = n := by simp at hn ⊢; omega
  let free : Nat → Bool := fun k => ((K[k]?).getD none).isNone
  let vf : (Nat → Value) → Nat → Value := fun v k => valOf K v k
  -- marks are apart
  have dstne : ∀ i j o o', i < n → j < n → i ≠ j → l.toArray[i]? = some o → l.toArray[j]? = some o' → ∀ d, o'.dst = some d → o.dst ≠ some d := fun i j o o' hi hj hne ho ho' d hd => by
    have h1 := rowB_spec (l.take n) 0 (one i hi o ho).row j o' (by rw [List.getElem?_take_of_lt hj]; simpa using ho')
    rw [Nat.zero_add] at h1
    unfold pairB at h1
    rw [hd] at h1
    simp only [Bool.or_eq_true, decide_eq_true_eq, hne, false_or, Bool.and_eq_true, bne_iff_ne, ne_eq] at h1
    exact h1.1
  let FR : (Nat → Bool) → (Nat → Value) → Act := fun S v => putL S (vf v) (l.take n) 0 a0
  have more : ∀ (S S' : Nat → Bool) (v : Nat → Value) (j : Nat) (o : Oper) (u : Value), j < n → l.toArray[j]? = some o → S j = false → S' j = true → (∀ k, k ≠ j → S' k = S k) → (free j = false → vf v j = u) →
      (FR S v).put o.dst u = FR S' (if free j then upd v j u else v) := fun S S' v j o u hj ho h1 h2 h3 h4 => by
    have hold : ∀ k, k ≠ j → vf (if free j then upd v j u else v) k = vf v k := fun k hk => by
      show ((K[k]?).getD none).getD _ = ((K[k]?).getD none).getD _
      split
      · simp [upd, hk]
      · rfl
    have hnew : vf (if free j then upd v j u else v) j = u := by
      cases hfj : free j
      · simpa using h4 hfj
      · show ((K[j]?).getD none).getD _ = u
        have : (K[j]?).getD none = none := by simpa [free] using hfj
        rw [this]; simp [upd]
    exact putL_more (l.take n) 0 a0 j o u (by rw [List.getElem?_take_of_lt hj]; simpa using ho) (by rw [Nat.zero_add]; exact h1) (by rw [Nat.zero_add]; exact h2) (by rw [Nat.zero_add]; exact hnew)
      (fun k hk => by rw [Nat.zero_add]; exact ⟨h3 k hk, hold k hk⟩)
      (fun k o' hk ho' d hd => by
        obtain ⟨hkn, hko⟩ := take_at k o' ho'
        intro hd2
        exact dstne j k o o' hj hkn (Ne.symm hk) ho hko d hd2 hd)
  have sees : ∀ (listed : Array Bool) (v : Nat → Value) (i : Nat) (o : Oper), i < n → l.toArray[i]? = some o → i ∈ Region.ready .any l.toArray listed →
      ∀ t ∈ o.looksAt l.toArray, (FR (fun j => listed.getD j false) v).tmps[t]? = (FR (fun j => decide (j < i)) v).tmps[t]? := fun listed v i o hi ho hr t ht => by
    refine putL_same (l.take n) 0 a0 a0 rfl rfl (fun k o' ho' hd => ?_)
    obtain ⟨hkn, hko⟩ := take_at k o' ho'
    rw [Nat.zero_add]
    have hO := one i hi o ho
    obtain ⟨_, o2, ho2, hall2⟩ := mem_ready.1 hr
    have e2 : o2 = o := Option.some.inj (ho2.symm.trans ho)
    subst e2
    by_cases hik : i = k
    · subst hik
      have e3 : o' = o2 := Option.some.inj (hko.symm.trans ho)
      subst e3
      exact absurd ht (hO.own t hd)
    · have h1 := rowB_spec (l.take n) 0 hO.row k o' ho'
      rw [Nat.zero_add] at h1
      unfold pairB at h1
      rw [hd] at h1
      have hct : (o2.looksAt l.toArray).contains t = true := by simpa using ht
      simp only [Bool.or_eq_true, decide_eq_true_eq, hik, false_or, Bool.and_eq_true, hct, Bool.not_true, Bool.false_eq_true] at h1
      obtain ⟨e, he, hbe⟩ := Array.any_eq_true'.1 h1.2
      simp only [Bool.and_eq_true, beq_iff_eq] at hbe
      have h2 := hall2 e he hbe.1
      rw [hbe.2] at h2
      rw [h2]
      have h3 := Array.all_eq_true_iff_forall_mem.1 hO.back e he
      simp only [hbe.1, Bool.not_true, Bool.false_or, decide_eq_true_eq, hbe.2] at h3
      simp [h3]
  have step : ∀ v i, i < n → ∀ o, l.toArray[i]? = some o → StepC P l.toArray Cs Ws St v ((K[i]?).getD none) i (cnt Cs i) o (FR (fun j => decide (j < i)) v) := fun v i hi o ho => by
    have := wpC_at K (l.take n) 0 a0 (vf v) (h v) (fun k _ => by rw [Nat.zero_add]; rfl) i o (by rw [List.getElem?_take_of_lt hi]; simpa using ho)
    rwa [Nat.zero_add] at this
  have hseq' : ∀ listed : Array Bool, listed.size = l.toArray.size → (∀ j, j < n → listed.getD j false = true) → (∀ t, n ≤ t → t < l.toArray.size → listed.getD t true = false) → Region.seqB .any l.toArray (l.toArray.size - n) n listed = true := fun listed hsz h1 h2 => by
    have e : listed = (List.replicate n true ++ List.replicate (l.length - n) false).toArray := by
      apply Array.ext
      · rw [hsz]; simp; omega
      · intro i hi1 hi2
        by_cases hin : i < n
        · have := h1 i hin
          simp [hi1] at this
          rw [this]; simp [List.getElem_append, hin]
        · have := h2 i (by omega) (by rw [← hsz]; exact hi1)
          simp [hi1] at this
          rw [this]; simp [List.getElem_append, hin]
    rw [e]; simpa using hseq
  have main : ∀ (f : Nat) (listed : Array Bool) (v : Nat → Value) (w : World) (s : Nat), HeadInv .any l.toArray n listed → unl (fun j => listed.getD j false) n = f → s ≤ cnt Cs n →
      (∀ i, i < n → Cs.contains i = true → (listed.getD i false = true ↔ cnt Cs i < s)) →
      St s v w → wpAny P .any l.toArray Q (f + (l.toArray.size - n)) listed (FR (fun j => listed.getD j false) v) w := by
    intro f
    induction f with
    | zero =>
      intro listed v w s inv hu hsn hst hK
      have hL := unl_zero hu
      have hend := wpC_end K (l.take n) 0 a0 (vf v) (h v) (fun k _ => by rw [Nat.zero_add]; rfl)
      have es : s = cnt Cs n := by
        rcases Nat.lt_or_ge s (cnt Cs n) with h1 | h1
        · obtain ⟨i, hi, hci, hcs⟩ := cnt_hit h1
          have := (hst i hi hci).1 (hL i hi)
          omega
        · omega
      rw [Nat.zero_add, htl, ← es] at hend
      have e : FR (fun j => listed.getD j false) v = putL (fun _ => true) (vf v) (l.take n) 0 a0 := putL_congr _ _ _ (fun k hk => by
        have hkn : k < n := by simp at hk; omega
        rw [Nat.zero_add]; exact ⟨hL k hkn, fun _ => rfl⟩)
      rw [e, Nat.zero_add]
      have hdl : (l.drop n).length = l.toArray.size - n := by simp
      have h1 := hend w hK
      have := wpAny_of_seq (md := .any) (Q' := Q) (l.drop n) n listed (putL (fun _ => true) (vf v) (l.take n) 0 a0) w (fun j => by simp [List.getElem?_drop]) (by rw [hdl]; exact hseq' listed inv.size hL inv.tail) h1
      rwa [hdl] at this
    | succ f ih =>
      intro listed v w s inv hu hsn hst hK
      have hex : ∃ i, i < n ∧ listed.getD i false = false ∧ (fun _ : Nat => true) i = true := by
        refine Classical.byContradiction fun hno => ?_
        have h0 : unl (fun j => listed.getD j false) n = 0 := by
          unfold unl
          rw [List.length_eq_zero_iff, List.filter_eq_nil_iff]
          intro x hx
          have hxn := List.mem_range.1 hx
          cases hs : listed.getD x false
          · exact absurd ⟨x, hxn, hs, rfl⟩ hno
          · show ¬ (!(listed.getD x false)) = true
            rw [hs]; decide
        omega
      have inb : ∀ i, i < n → i < listed.size := fun i hi => by rw [inv.size]; omega
      have readyOf : ∀ i, i < n → listed.getD i false = false → (∀ j, j < i → listed.getD j false = true) → i ∈ Region.ready .any l.toArray listed := fun i hi h1 h2 => by
        have hlt : i < l.toArray.size := by omega
        refine mem_ready.2 ⟨getD_in (inb i hi) h1, l.toArray[i], Array.getElem?_eq_getElem hlt, fun e he hb => ?_⟩
        have hO := one i hi _ (Array.getElem?_eq_getElem hlt)
        have h3 := Array.all_eq_true_iff_forall_mem.1 hO.back e he
        simp only [hb, Bool.not_true, Bool.false_or, decide_eq_true_eq] at h3
        exact h2 e.on h3
      obtain ⟨i0, hi0, hi0f, _, hi0l⟩ := least_unl n hex
      rw [show f + 1 + (l.toArray.size - n) = (f + (l.toArray.size - n)) + 1 by omega]
      refine ⟨fun h0 => ?_, fun j hr => ?_⟩
      · have := readyOf i0 hi0 hi0f (fun j hj => hi0l j hj rfl)
        rw [h0] at this; cases this
      have hj : j < n := by
        rcases Nat.lt_or_ge j n with hlt | hge
        · exact hlt
        · exact absurd hr (tail_waitsF hs hc hn inv _ i0 rfl hi0 (by simp) (getD_in (inb i0 hi0) hi0f) j hge)
      obtain ⟨hjun, o, ho, hall2⟩ := mem_ready.1 hr
      have hjf : listed.getD j false = false := getD_both hjun
      have hstp := step v j hj o ho
      have hsee := sees listed v j o hj ho hr
      have hex1 := exec_same (hselS j o · · ho) hsee
      have hw1 := wanted_same hsee
      have inv' := inv.set hr hj
      have hu' : unl (fun k => (listed.setIfInBounds j true).getD k false) n = f := by
        have := unl_set (S := fun k => listed.getD k false) (S' := fun k => (listed.setIfInBounds j true).getD k false) hj hjf (by have := inb j hj; simp [this]) (fun i hi => getD_set_ne false (fun e => hi e.symm))
        omega
      have hfr := fun (u : Value) (h4 : free j = false → vf v j = u) => more (fun k => listed.getD k false) (fun k => (listed.setIfInBounds j true).getD k false) v j o u hj ho hjf (by have := inb j hj; simp [this]) (fun i hi => getD_set_ne false (fun e => hi e.symm)) h4
      have hS'j : (listed.setIfInBounds j true).getD j false = true := by have := inb j hj; simp [this]
      have hS'k : ∀ k, k ≠ j → (listed.setIfInBounds j true).getD k false = listed.getD k false := fun k hk => getD_set_ne false (fun e => hk e.symm)
      unfold Go.wpOp
      simp only [ho]
      by_cases hjc : Cs.contains j = true
      · -- a stage
        have hcj : cnt Cs j = s := by
          have h1 : ¬ cnt Cs j < s := fun h => by rw [(hst j hj hjc).2 h] at hjf; cases hjf
          rcases Nat.lt_or_ge s (cnt Cs j) with h2 | h2
          · exfalso
            obtain ⟨i, hi, hci, hcs⟩ := cnt_hit h2
            have h3 := List.all_eq_true.1 (List.all_eq_true.1 hC j (by simpa using hjc)) i (by simpa using hci)
            simp only [Bool.or_eq_true, decide_eq_true_eq] at h3
            rcases h3 with h3 | h3
            · omega
            · have h4 := rch_spec inv _ j i h3 (.inr hr)
              have := (hst i (by omega) hci).1 h4
              omega
          · omega
        have hst' : ∀ i, i < n → Cs.contains i = true → ((listed.setIfInBounds j true).getD i false = true ↔ cnt Cs i < s + 1) := fun i hi hci => by
          by_cases hij : i = j
          · subst hij
            rw [hS'j]; simp; omega
          · rw [hS'k i hij, hst i hi hci]
            rcases Nat.lt_or_ge i j with h1 | h1
            · have := cnt_lt hci h1
              omega
            · have := cnt_lt hjc (show j < i by omega)
              omega
        have hsn' : s + 1 ≤ cnt Cs n := by
          have := cnt_lt hjc hj
          omega
        unfold StepC at hstp
        rw [if_pos hjc, hcj] at hstp
        obtain ⟨hwt, hrun⟩ := hstp
        have next : ∀ (u : Value) (w' : World), (match (K[j]?).getD none with
            | some c => u = c ∧ St (s + 1) v w'
            | none => St (s + 1) (upd v j u) w') → wpAny P .any l.toArray Q (f + (l.toArray.size - n)) (listed.setIfInBounds j true) ((FR (fun k => listed.getD k false) v).put o.dst u) w' := fun u w' hR => by
          cases hc0 : (K[j]?).getD none with
          | none =>
            rw [hc0] at hR
            have hfj : free j = true := by simp only [free, hc0, Option.isNone_none]
            rw [hfr u (fun h => by rw [hfj] at h; cases h), hfj]
            simp only [if_true]
            exact ih _ (upd v j u) w' (s + 1) inv' hu' hsn' hst' hR
          | some c =>
            rw [hc0] at hR
            obtain ⟨rfl, hR⟩ := hR
            have hfj : free j = false := by simp only [free, hc0, Option.isNone_some]
            have hvc : vf v j = u := by show ((K[j]?).getD none).getD _ = u; rw [hc0]; rfl
            rw [hfr u (fun _ => hvc), hfj]
            simp only [Bool.false_eq_true, if_false]
            exact ih _ v w' (s + 1) inv' hu' hsn' hst' hR
        rw [hw1, hwt]
        simp only [if_true]
        refine .inl ?_
        unfold Oper.wp
        rw [hex1]
        have h1 := hrun w hK
        generalize (execOp (FR (fun j_1 => decide (j_1 < j)) v).eval o).run P w = r at *
        cases r with
        | ok m w' =>
          cases m <;> simp only [BringsS] at h1 <;> simp only [Oper.upon]
          case value u => exact next u w' h1
          case skip => exact next undef w' h1
          case enter f' args => exact h1.mono fun e w'' ⟨u, he, hR⟩ => by subst he; exact next u w'' hR
        | halt x w' => simp only [BringsS] at h1
      · -- a value
        have hjc' : Cs.contains j = false := by simpa using hjc
        have hst' : ∀ i, i < n → Cs.contains i = true → ((listed.setIfInBounds j true).getD i false = true ↔ cnt Cs i < s) := fun i hi hci => by
          have hij : i ≠ j := fun e => by subst e; rw [hjc'] at hci; cases hci
          rw [hS'k i hij]; exact hst i hi hci
        unfold StepC at hstp
        rw [if_neg hjc] at hstp
        cases hc0 : (K[j]?).getD none with
        | none => rw [hc0] at hstp; exact hstp.elim
        | some c =>
          rw [hc0] at hstp
          simp only at hstp
          have hfj : free j = false := by simp only [free, hc0, Option.isNone_some]
          have hvc : vf v j = c := by show ((K[j]?).getD none).getD _ = c; rw [hc0]; rfl
          have next : wpAny P .any l.toArray Q (f + (l.toArray.size - n)) (listed.setIfInBounds j true) ((FR (fun k => listed.getD k false) v).put o.dst c) w := by
            rw [hfr c (fun _ => hvc), hfj]
            simp only [Bool.false_eq_true, if_false]
            exact ih _ v w s inv' hu' hsn hst' hK
          rcases hstp with ⟨hwt, hrun⟩ | ⟨hwt, hcu⟩
          · rw [hw1, hwt]
            simp only [if_true]
            refine .inl ?_
            unfold Oper.wp
            rw [hex1]
            have h1 := hrun s w (fun k hk => by
              have h3 := List.all_eq_true.1 hL (j, k) hk
              simp only [Bool.and_eq_true, decide_eq_true_eq] at h3
              obtain ⟨⟨h4, h5⟩, h6⟩ := h3
              refine Nat.le_of_not_lt fun hlt => ?_
              have h7 := rch_spec inv _ k j h6 (.inl ((hst k h5 h4).2 hlt))
              rw [h7] at hjf; cases hjf) hK
            generalize (execOp (FR (fun j_1 => decide (j_1 < j)) v).eval o).run P w = r at *
            cases r with
            | ok m w' =>
              cases m <;> simp only [Still] at h1 <;> simp only [Oper.upon]
              case value u => obtain ⟨rfl, rfl⟩ := h1; exact next
              case skip => obtain ⟨rfl, rfl⟩ := h1; exact next
            | halt x w' => simp only [Still] at h1
          · rw [hw1, hwt]
            simp only [Bool.false_eq_true, if_false]
            rw [← hcu]
            exact next
  have inv0 : HeadInv .any l.toArray n (Array.replicate l.toArray.size false) :=
    ⟨by simp, fun j oj _ hl => (by rw [getD_replicate_false] at hl; cases hl), fun t _ ht => getD_in (by simpa using ht) (getD_replicate_false _ _)⟩
  have hu0 : unl (fun j => (Array.replicate l.toArray.size false).getD j false) n = n := by
    unfold unl
    have : (List.range n).filter (fun i => !(Array.replicate l.toArray.size false).getD i false) = List.range n := List.filter_eq_self.2 fun x _ => by rw [getD_replicate_false]; rfl
    rw [this]; simp
  refine wp_region_any hm ?_
  have e0 : FR (fun j => (Array.replicate l.toArray.size false).getD j false) (fun _ => undef) = a0 := putL_none _ _ _ (fun k _ => getD_replicate_false _ _)
  have := main n _ (fun _ => undef) _ 0 inv0 hu0 (Nat.zero_le _) (fun i hi hci => by rw [getD_replicate_false]; simp) (hW _)
  rw [e0, show n + (l.toArray.size - n) = l.toArray.size by omega] at this
  exact this
/-- the same, the operations' table a letter -/
theorem region_chain {id : Nat} {w : World} (n : Nat) (Cs : List Nat) (Ws : List (Nat × Nat)) (St : Nat → (Nat → Value) → World → Prop) (K : List (Option Value))
    (hW : ∀ v, St 0 v { w with drawn := w.drawn + 1 }) (hm : P.follows .mixedOrders = true) (hB : typedB l n [] [] [] = true) (hC : chB .any l.toArray Cs = true) (hL : lmB .any l.toArray n Cs Ws = true)
    (hQ : ∀ c (a : Act) d u w, Q (.panic c) (a.put d u) w → Q (.panic c) a w)
    (h : ∀ OPS : Array Oper, OPS = l.toArray → ∀ v : Nat → Value, wpC P OPS Cs Ws St v (fun s a' => ∀ w', St s v w' → wpList P OPS Q (l.drop n) a' w') 0 K (l.take n) 0 a0) :
    (Code.region id l.toArray true).wp P Q a0 w := region_chain0 n Cs Ws St K hW hm hB hC hL hQ (h _ rfl)
end
end
end Go.Rg
