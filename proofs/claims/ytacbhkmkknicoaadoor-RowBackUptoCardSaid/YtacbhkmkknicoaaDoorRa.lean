/- A region that draws its order, one of whose operations (number kj) writes into memory that the region itself made: behind it the facts of the others are gone; its own stands. -/
import Derived.Test.YtacbhkmkknicoaaDoorRv
namespace Go.Rg
open Go Go.RowKit
set_option linter.unusedSimpArgs false
/-- a result that is good for G; what stood ahead of the region stands -/
def BringsA (P : Program) (W w0 : World) (G : Value → World → Prop) : Result Next → Prop
  | .ok (.value u) w => G u w ∧ Up W w ∧ w0.heap.size ≤ w.heap.size
  | .ok (.enter f args) w => Calls P f args w fun e w' => ∃ u, e = .returned u ∧ G u w' ∧ Up W w' ∧ w0.heap.size ≤ w'.heap.size
  | _ => False
theorem bringsA_value {P : Program} {G : Value → World → Prop} {u : Value} {W w0 w : World} : BringsA P W w0 G (.ok (.value u) w) = (G u w ∧ Up W w ∧ w0.heap.size ≤ w.heap.size) := rfl
theorem bringsA_enter {P : Program} {G : Value → World → Prop} {f : FuncId} {args : Array Value} {W w0 w : World} : BringsA P W w0 G (.ok (.enter f args) w) = Calls P f args w fun e w' => ∃ u, e = .returned u ∧ G u w' ∧ Up W w' ∧ w0.heap.size ≤ w'.heap.size := rfl
section
variable (P : Program) (ops : Array Oper) (W : World) (F : List Nat) (kj : Nat) (D : List Nat) (Gs : List (Nat × (Value → World → Prop)))
/-- what is owed of operation i, whose value is c, if told -/
def StepOa (v : Nat → Value) (c : Option Value) (i : Nat) (o : Oper) (a : Act) : Prop :=
  match c with
  | some c => if F.contains i then Yields P ops o c a else
      ((Region.wanted o (yielded ops a.tmps) = true ∧ ∀ w, Up W w → Brings P w c ((execOp a.eval o).run P w)) ∨ (Region.wanted o (yielded ops a.tmps) = false ∧ c = undef))
  | none => F.contains i = false ∧ Region.wanted o (yielded ops a.tmps) = true ∧
      if i = kj then ∀ w, Up W w → facts Gs v w D → BringsA P W w (Gat Gs i) ((execOp a.eval o).run P w)
      else ∀ w, Up W w → BringsG P w (Gat Gs i) false ((execOp a.eval o).run P w)
/-- one behind the other, in the order of the text -/
def wpA (v : Nat → Value) (L : Act → Prop) : List (Option Value) → List Oper → Nat → Act → Prop
  | [], [], _, a => L a
  | c :: K, o :: r, i, a => StepOa P ops W F kj D Gs v c i o a ∧ wpA v L K r (i + 1) (a.put o.dst (c.getD (v i)))
  | _, _, _, _ => False
end
section
variable {P : Program} {ops : Array Oper} {W : World} {F : List Nat} {kj : Nat} {D : List Nat} {Gs : List (Nat × (Value → World → Prop))} {v : Nat → Value} {L : Act → Prop}
theorem wpA_len : ∀ (K : List (Option Value)) (l : List Oper) (i : Nat) (a : Act), wpA P ops W F kj D Gs v L K l i a → K.length = l.length
  | [], [], _, _, _ => rfl
  | c :: K, o :: r, i, a, h => by simp only [List.length_cons]; rw [wpA_len K r _ _ h.2]
  | [], _ :: _, _, _, h => h.elim
  | _ :: _, [], _, _, h => h.elim
theorem wpA_at : ∀ (K : List (Option Value)) (l : List Oper) (i : Nat) (a : Act) (f : Nat → Value), wpA P ops W F kj D Gs v L K l i a → (∀ k, k < l.length → f (i + k) = ((K[k]?).getD none).getD (v (i + k))) →
    ∀ m o, l[m]? = some o → StepOa P ops W F kj D Gs v ((K[m]?).getD none) (i + m) o (putL (fun j => decide (j < i + m)) f l i a)
  | [], [], _, _, _, _, _, m, o, h => by simp at h
  | c :: K, o0 :: r, i, a, f, h, hf, 0, o, ho => by
    have e0 : o0 = o := by simpa using ho
    subst e0
    have e1 : putL (fun j => decide (j < i + 0)) f (o0 :: r) i a = a := putL_none _ _ _ (fun k _ => by simp)
    rw [e1]
    simpa using h.1
  | c :: K, o0 :: r, i, a, f, h, hf, m + 1, o, ho => by
    have h2 := wpA_at K r (i + 1) _ f h.2 (fun k hk => by have := hf (k + 1) (by simp; omega); rw [show i + 1 + k = i + (k + 1) by omega]; simpa using this) m o (by simpa using ho)
    have h0 := hf 0 (by simp)
    simp at h0
    unfold putL
    have e : (if decide (i < i + (m + 1)) then a.put o0.dst (f i) else a) = a.put o0.dst (c.getD (v i)) := by
      rw [if_pos (by simp), h0]
    rw [e, show i + (m + 1) = i + 1 + m by omega]
    simpa using h2
  | [], _ :: _, _, _, _, h, _, _, _, _ => h.elim
  | _ :: _, [], _, _, _, h, _, _, _, _ => h.elim
theorem wpA_end : ∀ (K : List (Option Value)) (l : List Oper) (i : Nat) (a : Act) (f : Nat → Value), wpA P ops W F kj D Gs v L K l i a → (∀ k, k < l.length → f (i + k) = ((K[k]?).getD none).getD (v (i + k))) →
    L (putL (fun _ => true) f l i a)
  | [], [], _, _, _, h, _ => h
  | c :: K, o0 :: r, i, a, f, h, hf => by
    have h2 := wpA_end K r (i + 1) _ f h.2 (fun k hk => by have := hf (k + 1) (by simp; omega); rw [show i + 1 + k = i + (k + 1) by omega]; simpa using this)
    have h0 := hf 0 (by simp)
    simp at h0
    unfold putL
    simp only [if_true, h0]
    exact h2
  | [], _ :: _, _, _, _, h, _ => h.elim
  | _ :: _, [], _, _, _, h, _ => h.elim
end
structure Known'' (Gs : List (Nat × (Value → World → Prop))) (kj : Nat) (free : Nat → Bool) (S : Nat → Bool) (n : Nat) (W : World) (v : Nat → Value) (w : World) : Prop where
  up : Up W w
  fact : ∀ k, k < n → S k = true → free k = true → (S kj = false ∨ k = kj) → Gat Gs k (v k) w
def appB (l : List Oper) (n : Nat) (F : List Nat) (kj : Nat) (D Fr : List Nat) : Bool :=
  D.all (fun k => Fr.contains k) && Region.noSelect l.toArray && decide (n < l.length) && sinkF .any l.toArray n F && Region.chainB .any l.toArray n && allB .any l.toArray l (l.take n) n F [(kj, D)] (l.take n) 0 &&
    Region.seqB .any l.toArray (l.length - n) n ((List.replicate n true ++ List.replicate (l.length - n) false).toArray)
theorem Dat_one {kj : Nat} {D : List Nat} {k : Nat} (h : k ∈ D) : k ∈ Dat [(kj, D)] kj := by simp [Dat, h]
section
variable {P : Program} {ops : Array Oper} {md : Region.Mode} {W : World} {Q : Exit → Act → World → Prop}
section
variable {l : List Oper} {n : Nat} {F : List Nat} {K : List (Option Value)} {a0 : Act}
theorem region_app {id : Nat} {w : World} (n : Nat) (F : List Nat) (kj : Nat) (D : List Nat) (Gs : List (Nat × (Value → World → Prop))) (Fr : List Nat) (K : List (Option Value))
    (hW : Up W { w with drawn := w.drawn + 1 }) (hm : P.follows .mixedOrders = true) (hB : appB l n F kj D Fr = true) (hN : allNone K Fr)
    (hG : ∀ k u w w', Gat Gs k u w → Up w w' → Gat Gs k u w')
    (hQ : ∀ c (a : Act) d u w, Q (.panic c) (a.put d u) w → Q (.panic c) a w)
    (hkn0 : kj < n) (h : ∀ v : Nat → Value, wpA P l.toArray W F kj D Gs v (fun a' => ∀ w', Known'' Gs kj (fun k => ((K[k]?).getD none).isNone) (fun _ => true) n W v w' → wpList P l.toArray Q (l.drop n) a' w') K (l.take n) 0 a0) :
    (Code.region id l.toArray true).wp P Q a0 w := by
  simp only [appB, Bool.and_eq_true, decide_eq_true_eq] at hB
  obtain ⟨⟨⟨⟨⟨⟨hDF, hsel⟩, hn'⟩, hs⟩, hc⟩, hall⟩, hseq⟩ := hB
  have hn : n < l.toArray.size := by simpa using hn'
  have hselS := Region.noSelect_spec hsel
  have one : ∀ i, i < n → ∀ o, l.toArray[i]? = some o → OneB .any l.toArray l (l.take n) n F [(kj, D)] o i := fun i hi o ho => by
    have h1 : (l.take n)[i]? = some o := by rw [List.getElem?_take_of_lt hi]; simpa using ho
    have := allB_spec (l.take n) 0 hall i o h1
    rwa [Nat.zero_add] at this
  have take_at : ∀ i o, (l.take n)[i]? = some o → i < n ∧ l.toArray[i]? = some o := fun i o ho => by
    have hi : i < n := by
      have := (List.getElem?_eq_some_iff.1 ho).1
      simp at this; omega
    rw [List.getElem?_take_of_lt hi] at ho
    exact ⟨hi, by simpa using ho⟩
  have hlen : ∀ v, K.length = (l.take n).length := fun v => wpA_len K _ 0 a0 (h v)
  let free : Nat → Bool := fun k => ((K[k]?).getD none).isNone
  let vf : (Nat → Value) → Nat → Value := fun v k => valOf K v k
  -- marks are apart
  have dstne : ∀ i j o o', i < n → j < n → i ≠ j → l.toArray[i]? = some o → l.toArray[j]? = some o' → ∀ d, o'.dst = some d → o.dst ≠ some d := fun i j o o' hi hj hne ho ho' d hd => by
    have h1 := rowB_spec (l.take n) 0 (one i hi o ho).row j o' (by rw [List.getElem?_take_of_lt hj]; simpa using ho')
    rw [Nat.zero_add] at h1
    unfold pairB at h1
    rw [hd] at h1
    simp only [Bool.or_eq_true, decide_eq_true_eq, hne, false_or, Bool.and_eq_true, bne_iff_ne, ne_eq] at h1
    exact h1.1
  -- the frame in which S has come up
  let FR : (Nat → Bool) → (Nat → Value) → Act := fun S v => putL S (vf v) (l.take n) 0 a0
  have more : ∀ (S S' : Nat → Bool) (v : Nat → Value) (j : Nat) (o : Oper) (u : Value), j < n → l.toArray[j]? = some o → S j = false → S' j = true → (∀ k, k ≠ j → S' k = S k) → (free j = false → vf v j = u) →
      (FR S v).put o.dst u = FR S' (if free j then upd v j u else v) := fun S S' v j o u hj ho h1 h2 h3 h4 => by
    have hold : ∀ k, k ≠ j → vf (if free j then upd v j u else v) k = vf v k := fun k hk => by
      show ((K[k]?).getD none).getD _ = ((K[k]?).getD none).getD _
      split
      · simp [upd, hk]
      · rfl
    have hnew : vf (if free j then upd v j u else v) j = u := by
      cases hfj : free j
      · simpa using h4 hfj
      · show ((K[j]?).getD none).getD _ = u
        have : (K[j]?).getD none = none := by simpa [free] using hfj
        rw [this]; simp [upd]
    exact putL_more (l.take n) 0 a0 j o u (by rw [List.getElem?_take_of_lt hj]; simpa using ho) (by rw [Nat.zero_add]; exact h1) (by rw [Nat.zero_add]; exact h2) (by rw [Nat.zero_add]; exact hnew)
      (fun k hk => by rw [Nat.zero_add]; exact ⟨h3 k hk, hold k hk⟩)
      (fun k o' hk ho' d hd => by
        obtain ⟨hkn, hko⟩ := take_at k o' ho'
        intro hd2
        exact dstne j k o o' hj hkn (Ne.symm hk) ho hko d hd2 hd)
  -- what an operation looks at is as in the text's order
  have sees : ∀ (listed : Array Bool) (v : Nat → Value) (i : Nat) (o : Oper), i < n → l.toArray[i]? = some o → i ∈ Region.ready .any l.toArray listed →
      ∀ t ∈ o.looksAt l.toArray, (FR (fun j => listed.getD j false) v).tmps[t]? = (FR (fun j => decide (j < i)) v).tmps[t]? := fun listed v i o hi ho hr t ht => by
    refine putL_same (l.take n) 0 a0 a0 rfl rfl (fun k o' ho' hd => ?_)
    obtain ⟨hkn, hko⟩ := take_at k o' ho'
    rw [Nat.zero_add]
    have hO := one i hi o ho
    obtain ⟨_, o2, ho2, hall2⟩ := mem_ready.1 hr
    have e2 : o2 = o := Option.some.inj (ho2.symm.trans ho)
    subst e2
    by_cases hik : i = k
    · subst hik
      have e3 : o' = o2 := Option.some.inj (hko.symm.trans ho)
      subst e3
      exact absurd ht (hO.own t hd)
    · have h1 := rowB_spec (l.take n) 0 hO.row k o' ho'
      rw [Nat.zero_add] at h1
      unfold pairB at h1
      rw [hd] at h1
      have hct : (o2.looksAt l.toArray).contains t = true := by simpa using ht
      simp only [Bool.or_eq_true, decide_eq_true_eq, hik, false_or, Bool.and_eq_true, hct, Bool.not_true, Bool.false_eq_true] at h1
      obtain ⟨e, he, hbe⟩ := Array.any_eq_true'.1 h1.2
      simp only [Bool.and_eq_true, beq_iff_eq] at hbe
      have h2 := hall2 e he hbe.1
      rw [hbe.2] at h2
      rw [h2]
      have h3 := Array.all_eq_true_iff_forall_mem.1 hO.back e he
      simp only [hbe.1, Bool.not_true, Bool.false_or, decide_eq_true_eq, hbe.2] at h3
      simp [h3]
  have step : ∀ v i, i < n → ∀ o, l.toArray[i]? = some o → StepOa P l.toArray W F kj D Gs v ((K[i]?).getD none) i o (FR (fun j => decide (j < i)) v) := fun v i hi o ho => by
    have := wpA_at K (l.take n) 0 a0 (vf v) (h v) (fun k _ => by rw [Nat.zero_add]; rfl) i o (by rw [List.getElem?_take_of_lt hi]; simpa using ho)
    rwa [Nat.zero_add] at this
  have hseq' : ∀ listed : Array Bool, listed.size = l.toArray.size → (∀ j, j < n → listed.getD j false = true) → (∀ t, n ≤ t → t < l.toArray.size → listed.getD t true = false) → Region.seqB .any l.toArray (l.toArray.size - n) n listed = true := fun listed hsz h1 h2 => by
    have e : listed = (List.replicate n true ++ List.replicate (l.length - n) false).toArray := by
      apply Array.ext
      · rw [hsz]; simp; omega
      · intro i hi1 hi2
        by_cases hin : i < n
        · have := h1 i hin
          simp [hi1] at this
          rw [this]; simp [List.getElem_append, hin]
        · have := h2 i (by omega) (by rw [← hsz]; exact hi1)
          simp [hi1] at this
          rw [this]; simp [List.getElem_append, hin]
    rw [e]; simpa using hseq
  -- all orders
  have main : ∀ (f : Nat) (listed : Array Bool) (v : Nat → Value) (w : World), HeadInv .any l.toArray n listed → unl (fun j => listed.getD j false) n = f →
      Known'' Gs kj free (fun j => listed.getD j false) n W v w → wpAny P .any l.toArray Q (f + (l.toArray.size - n)) listed (FR (fun j => listed.getD j false) v) w := by
    intro f
    induction f with
    | zero =>
      intro listed v w inv hu hK
      have hL := unl_zero hu
      have hend := wpA_end K (l.take n) 0 a0 (vf v) (h v) (fun k _ => by rw [Nat.zero_add]; rfl)
      have e : FR (fun j => listed.getD j false) v = putL (fun _ => true) (vf v) (l.take n) 0 a0 := putL_congr _ _ _ (fun k hk => by
        have hkn : k < n := by simp at hk; omega
        rw [Nat.zero_add]; exact ⟨hL k hkn, fun _ => rfl⟩)
      rw [e, Nat.zero_add]
      have hdl : (l.drop n).length = l.toArray.size - n := by simp
      have h1 := hend w ⟨hK.up, fun k hk _ hf hj => hK.fact k hk (hL k hk) hf (hj.imp (fun e => by cases e) (fun e => e))⟩
      have := wpAny_of_seq (md := .any) (Q' := Q) (l.drop n) n listed (putL (fun _ => true) (vf v) (l.take n) 0 a0) w (fun j => by simp [List.getElem?_drop]) (by rw [hdl]; exact hseq' listed inv.size hL inv.tail) h1
      rwa [hdl] at this
    | succ f ih =>
      intro listed v w inv hu hK
      -- there is a least one that has not come up
      have hex : ∃ i, i < n ∧ listed.getD i false = false ∧ (fun _ : Nat => true) i = true := by
        refine Classical.byContradiction fun hno => ?_
        have h0 : unl (fun j => listed.getD j false) n = 0 := by
          unfold unl
          rw [List.length_eq_zero_iff, List.filter_eq_nil_iff]
          intro x hx
          have hxn := List.mem_range.1 hx
          cases hs : listed.getD x false
          · exact absurd ⟨x, hxn, hs, rfl⟩ hno
          · show ¬ (!(listed.getD x false)) = true
            rw [hs]; decide
        omega
      have inb : ∀ i, i < n → i < listed.size := fun i hi => by rw [inv.size]; omega
      have readyOf : ∀ i, i < n → listed.getD i false = false → (∀ j, j < i → listed.getD j false = true) → i ∈ Region.ready .any l.toArray listed := fun i hi h1 h2 => by
        have hlt : i < l.toArray.size := by omega
        refine mem_ready.2 ⟨getD_in (inb i hi) h1, l.toArray[i], Array.getElem?_eq_getElem hlt, fun e he hb => ?_⟩
        have hO := one i hi _ (Array.getElem?_eq_getElem hlt)
        have h3 := Array.all_eq_true_iff_forall_mem.1 hO.back e he
        simp only [hb, Bool.not_true, Bool.false_or, decide_eq_true_eq] at h3
        exact h2 e.on h3
      have setS : ∀ j, j < n → (fun k => (listed.setIfInBounds j true).getD k false) = fun k => if k = j then true else listed.getD k false := fun j hj => by
        funext k
        by_cases hk : k = j
        · subst hk
          have := inb k hj
          simp [this]
        · rw [if_neg hk, getD_set_ne false (fun e => hk e.symm)]
      -- an operation of the prefix comes up
      have comes : ∀ j, j < n → j ∈ Region.ready .any l.toArray listed → wpOp P l.toArray Q j (fun a' w' => wpAny P .any l.toArray Q (f + (l.toArray.size - n)) (listed.setIfInBounds j true) a' w') (FR (fun k => listed.getD k false) v) w := fun j hj hr => by
        obtain ⟨hjun, o, ho, hall2⟩ := mem_ready.1 hr
        have hjf : listed.getD j false = false := getD_both hjun
        have hst := step v j hj o ho
        have hsee := sees listed v j o hj ho hr
        have hex1 := exec_same (hselS j o · · ho) hsee
        have hw1 := wanted_same hsee
        have inv' := inv.set hr hj
        have hu' : unl (fun k => (listed.setIfInBounds j true).getD k false) n = f := by
          have := unl_set (S := fun k => listed.getD k false) (S' := fun k => (listed.setIfInBounds j true).getD k false) hj hjf (by have := inb j hj; simp [this]) (fun i hi => getD_set_ne false (fun e => hi e.symm))
          omega
        have hfr := fun (u : Value) (h4 : free j = false → vf v j = u) => more (fun k => listed.getD k false) (fun k => (listed.setIfInBounds j true).getD k false) v j o u hj ho hjf (by have := inb j hj; simp [this]) (fun i hi => getD_set_ne false (fun e => hi e.symm)) h4
        have hfacts : j = kj → facts Gs v w D := fun hjk => facts_of fun k hk => by
          subst hjk
          have hO := one j hj o ho
          obtain ⟨e, he, hbe⟩ := Array.any_eq_true'.1 (hO.deps k (Dat_one hk))
          simp only [Bool.and_eq_true, beq_iff_eq] at hbe
          have h2 := hall2 e he hbe.1
          rw [hbe.2] at h2
          have h3 := Array.all_eq_true_iff_forall_mem.1 hO.back e he
          simp only [hbe.1, Bool.not_true, Bool.false_or, decide_eq_true_eq, hbe.2] at h3
          have hfk : free k = true := by
            have := allNone_mem hN (by have := List.all_eq_true.1 hDF k hk; simpa using this)
            simp only [free, this, Option.isNone_none]
          exact hK.fact k (by omega) h2 hfk (.inl hjf)
        have hS'j : (listed.setIfInBounds j true).getD j false = true := by have := inb j hj; simp [this]
        have hS'k : ∀ k, k ≠ j → (listed.setIfInBounds j true).getD k false = listed.getD k false := fun k hk => getD_set_ne false (fun e => hk e.symm)
        -- behind a determined one
        have nextD : ∀ (c : Value) (w' : World), free j = false → vf v j = c → Up w w' → wpAny P .any l.toArray Q (f + (l.toArray.size - n)) (listed.setIfInBounds j true) ((FR (fun k => listed.getD k false) v).put o.dst c) w' := fun c w' hfj hvc hup => by
          rw [hfr c (fun _ => hvc), hfj]
          simp only [Bool.false_eq_true, if_false]
          refine ih _ v w' inv' hu' ⟨hK.up.trans hup, fun k hk hSk hfk hkk => ?_⟩
          have hkj : k ≠ j := fun e => by subst e; rw [hfj] at hfk; cases hfk
          refine hG k _ w w' (hK.fact k hk (by rw [← hS'k k hkj]; exact hSk) hfk ?_) hup
          rcases hkk with h1 | h1
          · by_cases hj2 : kj = j
            · subst hj2; exact .inl hjf
            · exact .inl (by rw [← hS'k kj hj2]; exact h1)
          · exact .inr h1
        -- behind a free one
        have nextF : ∀ (u : Value) (w' : World), free j = true → j ≠ kj → Gat Gs j u w' → Up w w' → wpAny P .any l.toArray Q (f + (l.toArray.size - n)) (listed.setIfInBounds j true) ((FR (fun k => listed.getD k false) v).put o.dst u) w' := fun u w' hfj hjk hgu hup => by
          rw [hfr u (fun h => by rw [hfj] at h; cases h), hfj]
          simp only [if_true]
          have hvk : ∀ k, k ≠ j → upd v j u k = v k := fun k hk => by simp [upd, hk]
          have hvj : upd v j u j = u := by simp [upd]
          refine ih _ (upd v j u) w' inv' hu' ⟨hK.up.trans hup, fun k hk hSk hfk hkk => ?_⟩
          by_cases hkj : k = j
          · subst hkj; rw [hvj]; exact hgu
          · rw [hvk k hkj]
            exact hG k _ w w' (hK.fact k hk (by rw [← hS'k k hkj]; exact hSk) hfk (hkk.imp (fun h1 => by rw [← hS'k kj (Ne.symm hjk)]; exact h1) (fun e => e))) hup
        -- behind the one that writes
        have nextA : ∀ (u : Value) (w' : World), free j = true → j = kj → Gat Gs j u w' → Up W w' → wpAny P .any l.toArray Q (f + (l.toArray.size - n)) (listed.setIfInBounds j true) ((FR (fun k => listed.getD k false) v).put o.dst u) w' := fun u w' hfj hjk hgu hup => by
          rw [hfr u (fun h => by rw [hfj] at h; cases h), hfj]
          simp only [if_true]
          have hvj : upd v j u j = u := by simp [upd]
          refine ih _ (upd v j u) w' inv' hu' ⟨hup, fun k hk hSk hfk hkk => ?_⟩
          rcases hkk with h1 | h1
          · rw [← hjk, hS'j] at h1; cases h1
          · subst hjk; subst h1; rw [hvj]; exact hgu
        unfold Go.wpOp
        simp only [ho]
        cases hc0 : (K[j]?).getD none with
        | none =>
          rw [hc0] at hst
          have hfj : free j = true := by simp only [free, hc0, Option.isNone_none]
          obtain ⟨_, hwt, hrun⟩ := hst
          rw [hw1, hwt]
          simp only [if_true]
          refine .inl ?_
          unfold Oper.wp
          rw [hex1]
          by_cases hjk : j = kj
          · rw [if_pos hjk] at hrun
            have h1 := hrun w hK.up (hfacts hjk)
            generalize (execOp (FR (fun j_1 => decide (j_1 < j)) v).eval o).run P w = r at *
            cases r with
            | ok m w' =>
              cases m <;> simp only [BringsA] at h1 <;> simp only [Oper.upon]
              case value u => exact nextA u w' hfj hjk h1.1 h1.2.1
              case enter f' args => exact h1.mono fun e w'' ⟨u, he, hgu, hup, _⟩ => by subst he; exact nextA u w'' hfj hjk hgu hup
            | halt x w' => simp only [BringsA] at h1
          · rw [if_neg hjk] at hrun
            have h1 := hrun w hK.up
            generalize (execOp (FR (fun j_1 => decide (j_1 < j)) v).eval o).run P w = r at *
            cases r with
            | ok m w' =>
              cases m <;> simp only [BringsG] at h1 <;> simp only [Oper.upon]
              case value u => exact nextF u w' hfj hjk h1.1 h1.2.1
              case enter f' args => exact h1.mono fun e w'' ⟨u, he, hgu, hup, _⟩ => by subst he; exact nextF u w'' hfj hjk hgu hup
            | halt x w' => simp only [BringsG] at h1
        | some c =>
          rw [hc0] at hst
          have hfj : free j = false := by simp only [free, hc0, Option.isNone_some]
          have hvc : vf v j = c := by show ((K[j]?).getD none).getD _ = c; rw [hc0]; rfl
          have hdet : (Region.wanted o (yielded l.toArray (FR (fun j_1 => decide (j_1 < j)) v).tmps) = true ∧ Brings P w c ((execOp (FR (fun j_1 => decide (j_1 < j)) v).eval o).run P w)) ∨ (Region.wanted o (yielded l.toArray (FR (fun j_1 => decide (j_1 < j)) v).tmps) = false ∧ c = undef) := by
            simp only [StepOa] at hst
            split at hst
            · rcases hst with ⟨h1, h2⟩ | h2
              · exact .inl ⟨h1, by rw [h2 w]; exact ⟨rfl, Below.refl _ _⟩⟩
              · exact .inr h2
            · rcases hst with ⟨h1, h2⟩ | h2
              · exact .inl ⟨h1, h2 w hK.up⟩
              · exact .inr h2
          rcases hdet with ⟨hwt, h1⟩ | ⟨hwt, hcu⟩
          · rw [hw1, hwt]
            simp only [if_true]
            refine .inl ?_
            unfold Oper.wp
            rw [hex1]
            generalize (execOp (FR (fun j_1 => decide (j_1 < j)) v).eval o).run P w = r at *
            cases r with
            | ok m w' =>
              cases m <;> simp only [Brings] at h1 <;> simp only [Oper.upon]
              case value u => obtain ⟨rfl, h2⟩ := h1; exact nextD _ w' hfj hvc h2
              case skip => obtain ⟨rfl, h2⟩ := h1; exact nextD _ w' hfj hvc h2
              case enter f' args => exact h1.mono fun e w'' ⟨he, h2⟩ => by subst he; exact nextD _ w'' hfj hvc h2
            | halt x w' => simp only [Brings] at h1
          · rw [hw1, hwt]
            simp only [Bool.false_eq_true, if_false]
            rw [← hcu]
            exact nextD _ w hfj hvc (Below.refl _ _)
      by_cases hA : ∃ i, i < n ∧ listed.getD i false = false ∧ i ∉ F
      · -- no operation of the tail may come yet
        obtain ⟨i, hi, hif, hiF⟩ := hA
        rw [show f + 1 + (l.toArray.size - n) = (f + (l.toArray.size - n)) + 1 by omega]
        obtain ⟨i0, hi0, hi0f, _, hi0l⟩ := least_unl n hex
        refine ⟨fun h0 => ?_, fun j hj => ?_⟩
        · have := readyOf i0 hi0 hi0f (fun j hj => hi0l j hj rfl)
          rw [h0] at this; cases this
        · have hjn : j < n := by
            rcases Nat.lt_or_ge j n with hlt | hge
            · exact hlt
            · exact absurd hj (tail_waitsF hs hc hn inv _ i rfl hi hiF (getD_in (inb i hi) hif) j hge)
          exact comes j hjn hj
      · -- floats alone are left: the least of them comes first
        obtain ⟨i, hi, hif, _, hil⟩ := least_unl n hex
        have hiF : i ∈ F := Classical.byContradiction fun hno => hA ⟨i, hi, hif, hno⟩
        have hr := readyOf i hi hif (fun j hj => hil j hj rfl)
        have hlt : i < l.toArray.size := by omega
        have ho : l.toArray[i]? = some l.toArray[i] := Array.getElem?_eq_getElem hlt
        have hst := step v i hi _ ho
        have hsee := sees listed v i _ hi ho hr
        cases hc0 : (K[i]?).getD none with
        | none =>
          rw [hc0] at hst
          have : F.contains i = true := by simpa using hiF
          rw [hst.1] at this; cases this
        | some c =>
          rw [hc0] at hst
          simp only [StepOa] at hst
          rw [if_pos (by simpa using hiF)] at hst
          have hy : Yields P l.toArray l.toArray[i] c (FR (fun k => listed.getD k false) v) := hst.of_same (exec_same (hselS i _ · · ho) hsee) (wanted_same hsee)
          have hfi : free i = false := by simp only [free, hc0, Option.isNone_some]
          have hvc : vf v i = c := by show ((K[i]?).getD none).getD _ = c; rw [hc0]; rfl
          have hu' : unl (fun k => (listed.setIfInBounds i true).getD k false) n = f := by
            have := unl_set (S := fun k => listed.getD k false) (S' := fun k => (listed.setIfInBounds i true).getD k false) hi hif (by have := inb i hi; simp [this]) (fun k hk => getD_set_ne false (fun e => hk e.symm))
            omega
          have hfr := more (fun k => listed.getD k false) (fun k => (listed.setIfInBounds i true).getD k false) v i _ c hi ho hif (by have := inb i hi; simp [this]) (fun k hk => getD_set_ne false (fun e => hk e.symm)) (fun _ => hvc)
          rw [hfi] at hfr
          simp only [Bool.false_eq_true, if_false] at hfr
          have hS'k : ∀ k, k ≠ i → (listed.setIfInBounds i true).getD k false = listed.getD k false := fun k hk => getD_set_ne false (fun e => hk e.symm)
          have nk : ∀ k, free k = true → k ≠ i := fun k hk e => by subst e; rw [hfi] at hk; cases hk
          have hki : free kj = true → (listed.setIfInBounds i true).getD kj false = listed.getD kj false := fun hk => hS'k kj (nk kj hk)
          have hrest := ih (listed.setIfInBounds i true) v w (inv.set hr hi) hu' ⟨hK.up, fun k hk hSk hfk hkk => hK.fact k hk (by rw [← hS'k k (nk k hfk)]; exact hSk) hfk (hkk.imp (fun h1 => by
            by_cases hj2 : kj = i
            · subst hj2; exact hif
            · rw [← hS'k kj hj2]; exact h1) (fun e => e))⟩
          rw [show f + 1 + (l.toArray.size - n) = (f + (l.toArray.size - n)) + 1 by omega]
          refine wpAny_first ho hselS (fun c a w => hQ c a _ _ w) (f + (l.toArray.size - n)) listed _ w (fun j oj hoj hji hun hno => ?_) hr hy (by rw [hfr]; exact hrest)
          have hjlt : j < l.toArray.size := (Array.getElem?_eq_some_iff.1 hoj).1
          have hFl := fltB_spec l 0 ((one i hi _ ho).flt hiF) j oj (by simpa using hoj)
          rw [Nat.zero_add] at hFl
          have hunF := getD_both hun
          simp only [Bool.or_eq_true, Bool.and_eq_true, decide_eq_true_eq, Bool.not_eq_true'] at hFl
          rcases hFl with ((h1 | h1) | h1) | h1
          · exfalso
            have hjn : j < n := by omega
            have := hil j (by omega) rfl
            rw [hunF] at this; cases this
          · exfalso
            exact hA ⟨j, h1.1, hunF, by have := h1.2; simpa using this⟩
          · exfalso
            obtain ⟨e, he, hbe⟩ := Array.any_eq_true'.1 h1
            simp only [Bool.and_eq_true, beq_iff_eq] at hbe
            exact hno e he hbe.1 hbe.2
          · exact h1
  have inv0 : HeadInv .any l.toArray n (Array.replicate l.toArray.size false) :=
    ⟨by simp, fun j oj _ hl => (by rw [getD_replicate_false] at hl; cases hl), fun t _ ht => getD_in (by simpa using ht) (getD_replicate_false _ _)⟩
  have hu0 : unl (fun j => (Array.replicate l.toArray.size false).getD j false) n = n := by
    unfold unl
    have : (List.range n).filter (fun i => !(Array.replicate l.toArray.size false).getD i false) = List.range n := List.filter_eq_self.2 fun x _ => by rw [getD_replicate_false]; rfl
    rw [this]; simp
  refine wp_region_any hm ?_
  have e0 : FR (fun j => (Array.replicate l.toArray.size false).getD j false) (fun _ => undef) = a0 := putL_none _ _ _ (fun k _ => getD_replicate_false _ _)
  have := main n _ (fun _ => undef) _ inv0 hu0 ⟨hW, fun k _ hSk => (by rw [getD_replicate_false] at hSk; cases hSk)⟩
  rw [e0, show n + (l.toArray.size - n) = l.toArray.size by omega] at this
  exact this
end
end
end Go.Rg
