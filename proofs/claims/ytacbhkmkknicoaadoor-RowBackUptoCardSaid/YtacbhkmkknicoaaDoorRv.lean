/- A region that draws its order, whose operations may bring values that hang on the order (a new block, a slice that a callee made): what each value is good for is said by a fact that growth keeps. -/
import Derived.Test.YtacbhkmkknicoaaDoorRt
namespace Go.Rg
open Go Go.RowKit
set_option linter.unusedSimpArgs false
/-- the block that a pointer or a slice lies in -/
def blk : Value → Option Nat
  | .pointer (some a) => some a.block
  | .slice (some a) _ _ => some a.block
  | _ => none
/-- facts, by the operation's number -/
def Gat : List (Nat × (Value → World → Prop)) → Nat → Value → World → Prop
  | [], _, _, _ => True
  | p :: r, k, u, w => if p.1 = k then p.2 u w else Gat r k u w
def facts (Gs : List (Nat × (Value → World → Prop))) (v : Nat → Value) (w : World) : List Nat → Prop
  | [] => True
  | k :: r => Gat Gs k (v k) w ∧ facts Gs v w r
theorem facts_of {Gs : List (Nat × (Value → World → Prop))} {v : Nat → Value} {w : World} : ∀ {D : List Nat}, (∀ k ∈ D, Gat Gs k (v k) w) → facts Gs v w D
  | [], _ => trivial
  | k :: r, h => ⟨h k (by simp), facts_of fun k' hk' => h k' (by simp [hk'])⟩
/-- a result that is good for G, in a grown world; a new block, if told -/
def BringsG (P : Program) (w0 : World) (G : Value → World → Prop) (fr : Bool) : Result Next → Prop
  | .ok (.value u) w => G u w ∧ Up w0 w ∧ (fr = true → ∀ g, blk u = some g → w0.heap.size ≤ g ∧ g < w.heap.size)
  | .ok (.enter f args) w => Calls P f args w fun e w' => ∃ u, e = .returned u ∧ G u w' ∧ Up w0 w' ∧ (fr = true → ∀ g, blk u = some g → w0.heap.size ≤ g ∧ g < w'.heap.size)
  | _ => False
theorem bringsG_value {P : Program} {G : Value → World → Prop} {fr : Bool} {u : Value} {w0 w : World} : BringsG P w0 G fr (.ok (.value u) w) = (G u w ∧ Up w0 w ∧ (fr = true → ∀ g, blk u = some g → w0.heap.size ≤ g ∧ g < w.heap.size)) := rfl
theorem bringsG_enter {P : Program} {G : Value → World → Prop} {fr : Bool} {f : FuncId} {args : Array Value} {w0 w : World} : BringsG P w0 G fr (.ok (.enter f args) w) = Calls P f args w fun e w' => ∃ u, e = .returned u ∧ G u w' ∧ Up w0 w' ∧ (fr = true → ∀ g, blk u = some g → w0.heap.size ≤ g ∧ g < w'.heap.size) := rfl
def Dat (Ds : List (Nat × List Nat)) (i : Nat) : List Nat := match Ds with
  | [] => []
  | p :: r => if p.1 = i then p.2 else Dat r i
def upd (v : Nat → Value) (k : Nat) (u : Value) : Nat → Value := fun j => if j = k then u else v j
section
variable (P : Program) (ops : Array Oper) (W : World) (F : List Nat) (Ds : List (Nat × List Nat)) (Gs : List (Nat × (Value → World → Prop))) (fr : Nat → Bool)
/-- what is owed of operation i, whose value is c, if told -/
def StepOb (v : Nat → Value) (c : Option Value) (i : Nat) (o : Oper) (a : Act) : Prop :=
  match c with
  | some c => if F.contains i then Yields P ops o c a else
      ((Region.wanted o (yielded ops a.tmps) = true ∧ ∀ w, Up W w → facts Gs v w (Dat Ds i) → Brings P w c ((execOp a.eval o).run P w)) ∨ (Region.wanted o (yielded ops a.tmps) = false ∧ c = undef))
  | none => F.contains i = false ∧ Region.wanted o (yielded ops a.tmps) = true ∧ ∀ w, Up W w → facts Gs v w (Dat Ds i) → BringsG P w (Gat Gs i) (fr i) ((execOp a.eval o).run P w)
/-- one behind the other, in the order of the text -/
def wpV (v : Nat → Value) (L : Act → Prop) : List (Option Value) → List Oper → Nat → Act → Prop
  | [], [], _, a => L a
  | c :: K, o :: r, i, a => StepOb P ops W F Ds Gs fr v c i o a ∧ wpV v L K r (i + 1) (a.put o.dst (c.getD (v i)))
  | _, _, _, _ => False
end
def valOf (K : List (Option Value)) (v : Nat → Value) (i : Nat) : Value := ((K[i]?).getD none).getD (v i)
/-- the frame in which the operations of S have come up -/
def putL (S : Nat → Bool) (f : Nat → Value) : List Oper → Nat → Act → Act
  | [], _, a => a
  | o :: r, i, a => putL S f r (i + 1) (if S i then a.put o.dst (f i) else a)
theorem put_size (a : Act) (d : Option Tmp) (u : Value) : (a.put d u).tmps.size = a.tmps.size := by cases d <;> simp [Act.put]
theorem put_same {a a' : Act} {t : Tmp} (d : Option Tmp) (u : Value) (hs : a.tmps.size = a'.tmps.size) (h : a.tmps[t]? = a'.tmps[t]?) : (a.put d u).tmps[t]? = (a'.put d u).tmps[t]? := by
  cases d with
  | none => exact h
  | some e =>
    by_cases he : e = t
    · subst he
      simp only [Act.put, Array.getElem?_setIfInBounds_self, hs]
    · simp only [Act.put, Array.getElem?_setIfInBounds_ne he]; exact h
theorem put_other {a : Act} {t : Tmp} {d : Option Tmp} (u : Value) (h : d ≠ some t) : (a.put d u).tmps[t]? = a.tmps[t]? := by
  cases d with
  | none => rfl
  | some e =>
    have he : e ≠ t := fun x => h (by rw [x])
    simp only [Act.put, Array.getElem?_setIfInBounds_ne he]
theorem putL_same {S S' : Nat → Bool} {f : Nat → Value} {t : Tmp} : ∀ (l : List Oper) (i : Nat) (a a' : Act), a.tmps.size = a'.tmps.size → a.tmps[t]? = a'.tmps[t]? →
    (∀ k o, l[k]? = some o → o.dst = some t → S (i + k) = S' (i + k)) → (putL S f l i a).tmps[t]? = (putL S' f l i a').tmps[t]?
  | [], _, _, _, _, h, _ => h
  | o :: r, i, a, a', hs, h, hw => by
    unfold putL
    refine putL_same r (i + 1) _ _ ?_ ?_ (fun k o' ho' hd => by have := hw (k + 1) o' (by simpa using ho') hd; rw [show i + 1 + k = i + (k + 1) by omega]; exact this)
    · split <;> split <;> simp only [put_size, hs]
    · by_cases hd : o.dst = some t
      · have h0 := hw 0 o rfl hd
        rw [Nat.add_zero] at h0
        rw [h0]
        split
        · exact put_same _ _ hs h
        · exact h
      · have e1 : (if S i then a.put o.dst (f i) else a).tmps[t]? = a.tmps[t]? := by split; exact put_other _ hd; rfl
        have e2 : (if S' i then a'.put o.dst (f i) else a').tmps[t]? = a'.tmps[t]? := by split; exact put_other _ hd; rfl
        rw [e1, e2]; exact h
theorem putL_none {S : Nat → Bool} {f : Nat → Value} : ∀ (l : List Oper) (i : Nat) (a : Act), (∀ k, k < l.length → S (i + k) = false) → putL S f l i a = a
  | [], _, _, _ => rfl
  | o :: r, i, a, h => by
    unfold putL
    have h0 := h 0 (by simp)
    rw [Nat.add_zero] at h0
    rw [h0]
    simp only [Bool.false_eq_true, if_false]
    exact putL_none r (i + 1) a (fun k hk => by have := h (k + 1) (by simp; omega); rw [show i + 1 + k = i + (k + 1) by omega]; exact this)
theorem putL_congr {S S' : Nat → Bool} {f f' : Nat → Value} : ∀ (l : List Oper) (i : Nat) (a : Act), (∀ k, k < l.length → S (i + k) = S' (i + k) ∧ (S (i + k) = true → f (i + k) = f' (i + k))) → putL S f l i a = putL S' f' l i a
  | [], _, _, _ => rfl
  | o :: r, i, a, h => by
    unfold putL
    have h0 := h 0 (by simp)
    rw [Nat.add_zero] at h0
    have e : (if S i then a.put o.dst (f i) else a) = (if S' i then a.put o.dst (f' i) else a) := by
      rw [← h0.1]
      split
      · rename_i hs; rw [h0.2 hs]
      · rfl
    rw [e]
    exact putL_congr r (i + 1) _ (fun k hk => by have := h (k + 1) (by simp; omega); rw [show i + 1 + k = i + (k + 1) by omega]; exact this)
theorem putL_put {S : Nat → Bool} {f : Nat → Value} {x : Option Tmp} {u : Value} : ∀ (l : List Oper) (i : Nat) (a : Act), (∀ (k : Nat) (o : Oper), l[k]? = some o → ∀ d, x = some d → o.dst ≠ some d) → putL S f l i (a.put x u) = (putL S f l i a).put x u
  | [], _, _, _ => rfl
  | o :: r, i, a, h => by
    unfold putL
    have e : (if S i then (a.put x u).put o.dst (f i) else a.put x u) = (if S i then a.put o.dst (f i) else a).put x u := by
      split
      · exact Act.put_comm a _ _ (fun d hd => h 0 o rfl d hd)
      · rfl
    rw [e]
    exact putL_put r (i + 1) _ (fun k o' ho' => h (k + 1) o' (by simpa using ho'))
/-- one operation more has come up -/
theorem putL_more {S S' : Nat → Bool} {f f' : Nat → Value} : ∀ (l : List Oper) (i : Nat) (a : Act) (m : Nat) (o : Oper) (u : Value), l[m]? = some o → S (i + m) = false → S' (i + m) = true → f' (i + m) = u →
    (∀ k, k ≠ m → S' (i + k) = S (i + k) ∧ f' (i + k) = f (i + k)) → (∀ k o', k ≠ m → l[k]? = some o' → ∀ d, o.dst = some d → o'.dst ≠ some d) → (putL S f l i a).put o.dst u = putL S' f' l i a
  | [], _, _, _, _, _, h, _, _, _, _, _ => by simp at h
  | o0 :: r, i, a, 0, o, u, h, h1, h2, h3, h4, h5 => by
    have e0 : o0 = o := by simpa using h
    subst e0
    rw [Nat.add_zero] at h1 h2 h3
    unfold putL
    rw [h1, h2, h3]
    simp only [Bool.false_eq_true, if_false, if_true]
    rw [putL_congr (S := S') (S' := S) (f := f') (f' := f) r (i + 1) _ (fun k _ => by have := h4 (k + 1) (by omega); rw [show i + 1 + k = i + (k + 1) by omega]; exact ⟨this.1, fun _ => this.2⟩)]
    exact (putL_put r (i + 1) a (fun k o' ho' => h5 (k + 1) o' (by omega) (by simpa using ho'))).symm
  | o0 :: r, i, a, m + 1, o, u, h, h1, h2, h3, h4, h5 => by
    unfold putL
    have h0 := h4 0 (by omega)
    rw [Nat.add_zero] at h0
    rw [h0.1, h0.2]
    exact putL_more r (i + 1) _ m o u (by simpa using h) (by rw [show i + 1 + m = i + (m + 1) by omega]; exact h1) (by rw [show i + 1 + m = i + (m + 1) by omega]; exact h2) (by rw [show i + 1 + m = i + (m + 1) by omega]; exact h3)
      (fun k hk => by have := h4 (k + 1) (by omega); rw [show i + 1 + k = i + (k + 1) by omega]; exact this) (fun k o' hk ho' => h5 (k + 1) o' (by omega) (by simpa using ho'))
section
variable {P : Program} {ops : Array Oper} {W : World} {F : List Nat} {Ds : List (Nat × List Nat)} {Gs : List (Nat × (Value → World → Prop))} {fr : Nat → Bool} {v : Nat → Value} {L : Act → Prop}
theorem wpV_len : ∀ (K : List (Option Value)) (l : List Oper) (i : Nat) (a : Act), wpV P ops W F Ds Gs fr v L K l i a → K.length = l.length
  | [], [], _, _, _ => rfl
  | c :: K, o :: r, i, a, h => by simp only [List.length_cons]; rw [wpV_len K r _ _ h.2]
  | [], _ :: _, _, _, h => h.elim
  | _ :: _, [], _, _, h => h.elim
theorem wpV_at : ∀ (K : List (Option Value)) (l : List Oper) (i : Nat) (a : Act) (f : Nat → Value), wpV P ops W F Ds Gs fr v L K l i a → (∀ k, k < l.length → f (i + k) = ((K[k]?).getD none).getD (v (i + k))) →
    ∀ m o, l[m]? = some o → StepOb P ops W F Ds Gs fr v ((K[m]?).getD none) (i + m) o (putL (fun j => decide (j < i + m)) f l i a)
  | [], [], _, _, _, _, _, m, o, h => by simp at h
  | c :: K, o0 :: r, i, a, f, h, hf, 0, o, ho => by
    have e0 : o0 = o := by simpa using ho
    subst e0
    have e1 : putL (fun j => decide (j < i + 0)) f (o0 :: r) i a = a := putL_none _ _ _ (fun k _ => by simp)
    rw [e1]
    simpa using h.1
  | c :: K, o0 :: r, i, a, f, h, hf, m + 1, o, ho => by
    have h2 := wpV_at K r (i + 1) _ f h.2 (fun k hk => by have := hf (k + 1) (by simp; omega); rw [show i + 1 + k = i + (k + 1) by omega]; simpa using this) m o (by simpa using ho)
    have h0 := hf 0 (by simp)
    simp at h0
    unfold putL
    have e : (if decide (i < i + (m + 1)) then a.put o0.dst (f i) else a) = a.put o0.dst (c.getD (v i)) := by
      rw [if_pos (by simp), h0]
    rw [e, show i + (m + 1) = i + 1 + m by omega]
    simpa using h2
  | [], _ :: _, _, _, _, h, _, _, _, _ => h.elim
  | _ :: _, [], _, _, _, h, _, _, _, _ => h.elim
theorem wpV_end : ∀ (K : List (Option Value)) (l : List Oper) (i : Nat) (a : Act) (f : Nat → Value), wpV P ops W F Ds Gs fr v L K l i a → (∀ k, k < l.length → f (i + k) = ((K[k]?).getD none).getD (v (i + k))) →
    L (putL (fun _ => true) f l i a)
  | [], [], _, _, _, h, _ => h
  | c :: K, o0 :: r, i, a, f, h, hf => by
    have h2 := wpV_end K r (i + 1) _ f h.2 (fun k hk => by have := hf (k + 1) (by simp; omega); rw [show i + 1 + k = i + (k + 1) by omega]; simpa using this)
    have h0 := hf 0 (by simp)
    simp at h0
    unfold putL
    simp only [if_true, h0]
    exact h2
  | [], _ :: _, _, _, _, h, _ => h.elim
  | _ :: _, [], _, _, _, h, _ => h.elim
end
/-! ### The closed test -/
section
variable {P : Program} {ops : Array Oper} {md : Region.Mode} {W : World} {Q : Exit → Act → World → Prop}
/-- operation o, number i, against operation o', number j: their marks are apart; what o looks at of j's it waits for -/
def pairB (md : Region.Mode) (ops : Array Oper) (o : Oper) (i : Nat) (o' : Oper) (j : Nat) : Bool :=
  decide (i = j) || (match o'.dst with
    | some d => o.dst != some d && (!(o.looksAt ops).contains d || o.after.any (fun e => Region.binds md e && e.on == j))
    | none => true)
def rowB (md : Region.Mode) (ops : Array Oper) (o : Oper) (i : Nat) : List Oper → Nat → Bool
  | [], _ => true
  | o' :: r, j => pairB md ops o i o' j && rowB md ops o i r (j + 1)
/-- a float i: later floats and the tail wait for it or leave its sight alone -/
def fltB (md : Region.Mode) (ops : Array Oper) (n : Nat) (F : List Nat) (o : Oper) (i : Nat) : List Oper → Nat → Bool
  | [], _ => true
  | o' :: r, j => (decide (j ≤ i) || (decide (j < n) && !F.contains j) || o'.after.any (fun e => Region.binds md e && e.on == i) || o.apart ops o') && fltB md ops n F o i r (j + 1)
def allB (md : Region.Mode) (ops : Array Oper) (all : List Oper) (pre : List Oper) (n : Nat) (F : List Nat) (Ds : List (Nat × List Nat)) : List Oper → Nat → Bool
  | [], _ => true
  | o :: r, i => backB md o i && (match o.dst with | some d => !(o.looksAt ops).contains d | none => true) && rowB md ops o i pre 0 && (Dat Ds i).all (fun k => o.after.any (fun e => Region.binds md e && e.on == k)) &&
      (!F.contains i || fltB md ops n F o i all 0) && allB md ops all pre n F Ds r (i + 1)
def typedB (l : List Oper) (n : Nat) (F : List Nat) (Ds : List (Nat × List Nat)) (Fr : List Nat) : Bool :=
  Ds.all (fun p => p.2.all fun k => Fr.contains k) && Region.noSelect l.toArray && decide (n < l.length) && sinkF .any l.toArray n F && Region.chainB .any l.toArray n && allB .any l.toArray l (l.take n) n F Ds (l.take n) 0 &&
    Region.seqB .any l.toArray (l.length - n) n ((List.replicate n true ++ List.replicate (l.length - n) false).toArray)
theorem rowB_spec {o : Oper} {i : Nat} : ∀ (l : List Oper) (j : Nat), rowB md ops o i l j = true → ∀ k o', l[k]? = some o' → pairB md ops o i o' (j + k) = true
  | [], _, _, k, o', h => by simp at h
  | x :: r, j, h, 0, o', ho => by
    have e : x = o' := by simpa using ho
    subst e
    simp only [rowB, Bool.and_eq_true] at h
    simpa using h.1
  | x :: r, j, h, k + 1, o', ho => by
    simp only [rowB, Bool.and_eq_true] at h
    have := rowB_spec r (j + 1) h.2 k o' (by simpa using ho)
    rw [show j + (k + 1) = j + 1 + k by omega]; exact this
theorem fltB_spec {n : Nat} {F : List Nat} {o : Oper} {i : Nat} : ∀ (l : List Oper) (j : Nat), fltB md ops n F o i l j = true → ∀ k o', l[k]? = some o' →
    (decide (j + k ≤ i) || (decide (j + k < n) && !F.contains (j + k)) || o'.after.any (fun e => Region.binds md e && e.on == i) || o.apart ops o') = true
  | [], _, _, k, o', h => by simp at h
  | x :: r, j, h, 0, o', ho => by
    have e : x = o' := by simpa using ho
    subst e
    simp only [fltB, Bool.and_eq_true] at h
    simpa using h.1
  | x :: r, j, h, k + 1, o', ho => by
    simp only [fltB, Bool.and_eq_true] at h
    have := fltB_spec r (j + 1) h.2 k o' (by simpa using ho)
    rw [show j + (k + 1) = j + 1 + k by omega]; exact this
structure OneB (md : Region.Mode) (ops : Array Oper) (all pre : List Oper) (n : Nat) (F : List Nat) (Ds : List (Nat × List Nat)) (o : Oper) (i : Nat) : Prop where
  back : backB md o i = true
  own : ∀ d, o.dst = some d → d ∉ o.looksAt ops
  row : rowB md ops o i pre 0 = true
  deps : ∀ k ∈ Dat Ds i, o.after.any (fun e => Region.binds md e && e.on == k) = true
  flt : i ∈ F → fltB md ops n F o i all 0 = true
theorem allB_spec {all pre : List Oper} {n : Nat} {F : List Nat} {Ds : List (Nat × List Nat)} : ∀ (l : List Oper) (i : Nat), allB md ops all pre n F Ds l i = true → ∀ k o, l[k]? = some o → OneB md ops all pre n F Ds o (i + k)
  | [], _, _, k, o, h => by simp at h
  | x :: r, i, h, 0, o, ho => by
    have e : x = o := by simpa using ho
    subst e
    simp only [allB, Bool.and_eq_true] at h
    obtain ⟨⟨⟨⟨⟨h1, h2⟩, h3⟩, h4⟩, h5⟩, _⟩ := h
    refine ⟨h1, fun d hd => ?_, h3, fun k hk => List.all_eq_true.1 h4 k hk, fun hF => ?_⟩
    · rw [hd] at h2; simpa using h2
    · rw [Nat.add_zero] at hF ⊢
      simp only [Bool.or_eq_true, Bool.not_eq_true'] at h5
      rcases h5 with h5 | h5
      · have : F.contains i = true := by simpa using hF
        rw [this] at h5; cases h5
      · exact h5
  | x :: r, i, h, k + 1, o, ho => by
    simp only [allB, Bool.and_eq_true] at h
    have := allB_spec r (i + 1) h.2 k o (by simpa using ho)
    rw [show i + (k + 1) = i + 1 + k by omega]; exact this
theorem wanted_same {o : Oper} {a a' : Act} (h : ∀ t ∈ o.looksAt ops, a.tmps[t]? = a'.tmps[t]?) : Region.wanted o (yielded ops a.tmps) = Region.wanted o (yielded ops a'.tmps) := by
  unfold Region.wanted
  cases hg : o.guard with
  | none => rfl
  | some p =>
    obtain ⟨j, want⟩ := p
    have e : yielded ops a.tmps j = yielded ops a'.tmps j := by
      unfold yielded
      cases hd : (ops[j]?).bind (·.dst) with
      | none => rfl
      | some t =>
        have ht : t ∈ o.looksAt ops := by
          unfold Oper.looksAt
          refine List.mem_append_right _ ?_
          rw [hg]
          simp [hd]
        have := h t ht
        simp only [Option.bind_some, this]
    simp only [e]
theorem exec_same {o : Oper} {a a' : Act} (hs : ∀ cs b, o.op ≠ .select cs b) (h : ∀ t ∈ o.looksAt ops, a.tmps[t]? = a'.tmps[t]?) : execOp a.eval o = execOp a'.eval o :=
  execOp_congr o hs fun x hx => by
    cases x with
    | tmp t =>
      have ht : t ∈ o.looksAt ops := List.mem_append_left _ (List.mem_filterMap.2 ⟨.tmp t, by simpa using hx, rfl⟩)
      simp only [Act.eval, Array.getD_eq_getD_getElem?, h t ht]
    | _ => rfl
/-- what is known when all have come up -/
structure Known' (Gs : List (Nat × (Value → World → Prop))) (fr : Nat → Bool) (free : Nat → Bool) (S : Nat → Bool) (n : Nat) (W : World) (v : Nat → Value) (w : World) : Prop where
  up : Up W w
  fact : ∀ k, k < n → S k = true → free k = true → Gat Gs k (v k) w
  new : ∀ k, k < n → S k = true → free k = true → fr k = true → ∀ g, blk (v k) = some g → W.heap.size ≤ g ∧ g < w.heap.size
  apart : ∀ k j, k < n → j < n → S k = true → S j = true → free k = true → free j = true → fr k = true → fr j = true → k ≠ j → ∀ g, blk (v k) = some g → blk (v j) ≠ some g
def unl (S : Nat → Bool) (n : Nat) : Nat := ((List.range n).filter (fun i => !S i)).length
theorem unl_zero {S : Nat → Bool} {n : Nat} (h : unl S n = 0) : ∀ i, i < n → S i = true := fun i hi => by
  unfold unl at h
  have h1 := List.eq_nil_of_length_eq_zero h
  have h2 := List.filter_eq_nil_iff.1 h1 i (List.mem_range.2 hi)
  simpa using h2
theorem unl_set {S S' : Nat → Bool} : ∀ {n : Nat} {j : Nat}, j < n → S j = false → S' j = true → (∀ i, i ≠ j → S' i = S i) → unl S n = unl S' n + 1
  | 0, j, hj, _, _, _ => by omega
  | n + 1, j, hj, h1, h2, h3 => by
    unfold unl
    rw [List.range_succ, List.filter_append, List.filter_append, List.length_append, List.length_append]
    by_cases hjn : j = n
    · subst hjn
      have e : (List.range j).filter (fun i => !S' i) = (List.range j).filter (fun i => !S i) := List.filter_congr fun x hx => by
        have := List.mem_range.1 hx
        rw [h3 x (by omega)]
      rw [e]
      simp [h1, h2]
    · have ih := unl_set (n := n) (j := j) (by omega) h1 h2 h3
      unfold unl at ih
      have e : S' n = S n := h3 n (by omega)
      simp only [List.filter_cons, List.filter_nil, e]
      omega
theorem least_unl {S : Nat → Bool} {p : Nat → Bool} : ∀ (n : Nat), (∃ i, i < n ∧ S i = false ∧ p i = true) → ∃ i, i < n ∧ S i = false ∧ p i = true ∧ ∀ j, j < i → p j = true → S j = true
  | 0, ⟨i, h, _⟩ => by omega
  | n + 1, ⟨i, h, h1, h2⟩ => by
    by_cases h3 : ∃ i, i < n ∧ S i = false ∧ p i = true
    · obtain ⟨k, a, b, c, d⟩ := least_unl n h3
      exact ⟨k, by omega, b, c, d⟩
    · refine ⟨i, h, h1, h2, fun j hj hp => ?_⟩
      cases hs : S j
      · exact absurd ⟨j, by omega, hs, hp⟩ h3
      · rfl
def allNone (K : List (Option Value)) : List Nat → Prop
  | [] => True
  | k :: r => (K[k]?).getD none = none ∧ allNone K r
theorem allNone_mem {K : List (Option Value)} : ∀ {Fr : List Nat} {k : Nat}, allNone K Fr → k ∈ Fr → (K[k]?).getD none = none
  | [], _, _, h => by cases h
  | x :: r, k, h, hk => by
    rcases List.mem_cons.1 hk with rfl | hk
    · exact h.1
    · exact allNone_mem h.2 hk
section
variable {l : List Oper} {n : Nat} {F : List Nat} {Ds : List (Nat × List Nat)} {Gs : List (Nat × (Value → World → Prop))} {fr : Nat → Bool} {K : List (Option Value)} {a0 : Act}
theorem Dat_mem {i k : Nat} : ∀ {Ds : List (Nat × List Nat)} {Fr : List Nat}, (Ds.all (fun p => p.2.all fun k => Fr.contains k)) = true → k ∈ Dat Ds i → k ∈ Fr
  | [], _, _, h => by simp [Dat] at h
  | p :: r, Fr, h, hk => by
    simp only [List.all_cons, Bool.and_eq_true] at h
    unfold Dat at hk
    split at hk
    · have := List.all_eq_true.1 h.1 k hk; simpa using this
    · exact Dat_mem h.2 hk
theorem region_typed {id : Nat} {w : World} (n : Nat) (F : List Nat) (Ds : List (Nat × List Nat)) (Gs : List (Nat × (Value → World → Prop))) (fr : Nat → Bool) (Fr : List Nat) (K : List (Option Value))
    (hW : Up W { w with drawn := w.drawn + 1 }) (hm : P.follows .mixedOrders = true) (hB : typedB l n F Ds Fr = true) (hN : allNone K Fr)
    (hG : ∀ k u w w', Gat Gs k u w → Up w w' → Gat Gs k u w')
    (hQ : ∀ c (a : Act) d u w, Q (.panic c) (a.put d u) w → Q (.panic c) a w)
    (h : ∀ v : Nat → Value, wpV P l.toArray W F Ds Gs fr v (fun a' => ∀ w', Known' Gs fr (fun k => ((K[k]?).getD none).isNone) (fun _ => true) n W v w' → wpList P l.toArray Q (l.drop n) a' w') K (l.take n) 0 a0) :
    (Code.region id l.toArray true).wp P Q a0 w := by
  simp only [typedB, Bool.and_eq_true, decide_eq_true_eq] at hB
  obtain ⟨⟨⟨⟨⟨⟨hDF, hsel⟩, hn'⟩, hs⟩, hc⟩, hall⟩, hseq⟩ := hB
  have hn : n < l.toArray.size := by simpa using hn'
  have hselS := Region.noSelect_spec hsel
  have one : ∀ i, i < n → ∀ o, l.toArray[i]? = some o → OneB .any l.toArray l (l.take n) n F Ds o i := fun i hi o ho => by
    have h1 : (l.take n)[i]? = some o := by rw [List.getElem?_take_of_lt hi]; simpa using ho
    have := allB_spec (l.take n) 0 hall i o h1
    rwa [Nat.zero_add] at this
  have take_at : ∀ i o, (l.take n)[i]? = some o → i < n ∧ l.toArray[i]? = some o := fun i o ho => by
    have hi : i < n := by
      have := (List.getElem?_eq_some_iff.1 ho).1
      simp at this; omega
    rw [List.getElem?_take_of_lt hi] at ho
    exact ⟨hi, by simpa using ho⟩
  have hlen : ∀ v, K.length = (l.take n).length := fun v => wpV_len K _ 0 a0 (h v)
  let free : Nat → Bool := fun k => ((K[k]?).getD none).isNone
  let vf : (Nat → Value) → Nat → Value := fun v k => valOf K v k
  -- marks are apart
  have dstne : ∀ i j o o', i < n → j < n → i ≠ j → l.toArray[i]? = some o → l.toArray[j]? = some o' → ∀ d, o'.dst = some d → o.dst ≠ some d := fun i j o o' hi hj hne ho ho' d hd => by
    have h1 := rowB_spec (l.take n) 0 (one i hi o ho).row j o' (by rw [List.getElem?_take_of_lt hj]; simpa using ho')
    rw [Nat.zero_add] at h1
    unfold pairB at h1
    rw [hd] at h1
    simp only [Bool.or_eq_true, decide_eq_true_eq, hne, false_or, Bool.and_eq_true, bne_iff_ne, ne_eq] at h1
    exact h1.1
  -- the frame in which S has come up
  let FR : (Nat → Bool) → (Nat → Value) → Act := fun S v => putL S (vf v) (l.take n) 0 a0
  have more : ∀ (S S' : Nat → Bool) (v : Nat → Value) (j : Nat) (o : Oper) (u : Value), j < n → l.toArray[j]? = some o → S j = false → S' j = true → (∀ k, k ≠ j → S' k = S k) → (free j = false → vf v j = u) →
      (FR S v).put o.dst u = FR S' (if free j then upd v j u else v) := fun S S' v j o u hj ho h1 h2 h3 h4 => by
    have hold : ∀ k, k ≠ j → vf (if free j then upd v j u else v) k = vf v k := fun k hk => by
      show ((K[k]?).getD none).getD _ = ((K[k]?).getD none).getD _
      split
      · simp [upd, hk]
      · rfl
    have hnew : vf (if free j then upd v j u else v) j = u := by
      cases hfj : free j
      · simpa using h4 hfj
      · show ((K[j]?).getD none).getD _ = u
        have : (K[j]?).getD none = none := by simpa [free] using hfj
        rw [this]; simp [upd]
    exact putL_more (l.take n) 0 a0 j o u (by rw [List.getElem?_take_of_lt hj]; simpa using ho) (by rw [Nat.zero_add]; exact h1) (by rw [Nat.zero_add]; exact h2) (by rw [Nat.zero_add]; exact hnew)
      (fun k hk => by rw [Nat.zero_add]; exact ⟨h3 k hk, hold k hk⟩)
      (fun k o' hk ho' d hd => by
        obtain ⟨hkn, hko⟩ := take_at k o' ho'
        intro hd2
        exact dstne j k o o' hj hkn (Ne.symm hk) ho hko d hd2 hd)
  -- what an operation looks at is as in the text's order
  have sees : ∀ (listed : Array Bool) (v : Nat → Value) (i : Nat) (o : Oper), i < n → l.toArray[i]? = some o → i ∈ Region.ready .any l.toArray listed →
      ∀ t ∈ o.looksAt l.toArray, (FR (fun j => listed.getD j false) v).tmps[t]? = (FR (fun j => decide (j < i)) v).tmps[t]? := fun listed v i o hi ho hr t ht => by
    refine putL_same (l.take n) 0 a0 a0 rfl rfl (fun k o' ho' hd => ?_)
    obtain ⟨hkn, hko⟩ := take_at k o' ho'
    rw [Nat.zero_add]
    have hO := one i hi o ho
    obtain ⟨_, o2, ho2, hall2⟩ := mem_ready.1 hr
    have e2 : o2 = o := Option.some.inj (ho2.symm.trans ho)
    subst e2
    by_cases hik : i = k
    · subst hik
      have e3 : o' = o2 := Option.some.inj (hko.symm.trans ho)
      subst e3
      exact absurd ht (hO.own t hd)
    · have h1 := rowB_spec (l.take n) 0 hO.row k o' ho'
      rw [Nat.zero_add] at h1
      unfold pairB at h1
      rw [hd] at h1
      have hct : (o2.looksAt l.toArray).contains t = true := by simpa using ht
      simp only [Bool.or_eq_true, decide_eq_true_eq, hik, false_or, Bool.and_eq_true, hct, Bool.not_true, Bool.false_eq_true] at h1
      obtain ⟨e, he, hbe⟩ := Array.any_eq_true'.1 h1.2
      simp only [Bool.and_eq_true, beq_iff_eq] at hbe
      have h2 := hall2 e he hbe.1
      rw [hbe.2] at h2
      rw [h2]
      have h3 := Array.all_eq_true_iff_forall_mem.1 hO.back e he
      simp only [hbe.1, Bool.not_true, Bool.false_or, decide_eq_true_eq, hbe.2] at h3
      simp [h3]
  have step : ∀ v i, i < n → ∀ o, l.toArray[i]? = some o → StepOb P l.toArray W F Ds Gs fr v ((K[i]?).getD none) i o (FR (fun j => decide (j < i)) v) := fun v i hi o ho => by
    have := wpV_at K (l.take n) 0 a0 (vf v) (h v) (fun k _ => by rw [Nat.zero_add]; rfl) i o (by rw [List.getElem?_take_of_lt hi]; simpa using ho)
    rwa [Nat.zero_add] at this
  have hseq' : ∀ listed : Array Bool, listed.size = l.toArray.size → (∀ j, j < n → listed.getD j false = true) → (∀ t, n ≤ t → t < l.toArray.size → listed.getD t true = false) → Region.seqB .any l.toArray (l.toArray.size - n) n listed = true := fun listed hsz h1 h2 => by
    have e : listed = (List.replicate n true ++ List.replicate (l.length - n) false).toArray := by
      apply Array.ext
      · rw [hsz]; simp; omega
      · intro i hi1 hi2
        by_cases hin : i < n
        · have := h1 i hin
          simp [hi1] at this
          rw [this]; simp [List.getElem_append, hin]
        · have := h2 i (by omega) (by rw [← hsz]; exact hi1)
          simp [hi1] at this
          rw [this]; simp [List.getElem_append, hin]
    rw [e]; simpa using hseq
  -- all orders
  have main : ∀ (f : Nat) (listed : Array Bool) (v : Nat → Value) (w : World), HeadInv .any l.toArray n listed → unl (fun j => listed.getD j false) n = f →
      Known' Gs fr free (fun j => listed.getD j false) n W v w → wpAny P .any l.toArray Q (f + (l.toArray.size - n)) listed (FR (fun j => listed.getD j false) v) w := by
    intro f
    induction f with
    | zero =>
      intro listed v w inv hu hK
      have hL := unl_zero hu
      have hend := wpV_end K (l.take n) 0 a0 (vf v) (h v) (fun k _ => by rw [Nat.zero_add]; rfl)
      have e : FR (fun j => listed.getD j false) v = putL (fun _ => true) (vf v) (l.take n) 0 a0 := putL_congr _ _ _ (fun k hk => by
        have hkn : k < n := by simp at hk; omega
        rw [Nat.zero_add]; exact ⟨hL k hkn, fun _ => rfl⟩)
      rw [e, Nat.zero_add]
      have hdl : (l.drop n).length = l.toArray.size - n := by simp
      have h1 := hend w ⟨hK.up, fun k hk _ hf => hK.fact k hk (hL k hk) hf, fun k hk _ hf hr => hK.new k hk (hL k hk) hf hr, fun k j hk hj _ _ hf hf' hr hr' hne => hK.apart k j hk hj (hL k hk) (hL j hj) hf hf' hr hr' hne⟩
      have := wpAny_of_seq (md := .any) (Q' := Q) (l.drop n) n listed (putL (fun _ => true) (vf v) (l.take n) 0 a0) w (fun j => by simp [List.getElem?_drop]) (by rw [hdl]; exact hseq' listed inv.size hL inv.tail) h1
      rwa [hdl] at this
    | succ f ih =>
      intro listed v w inv hu hK
      -- there is a least one that has not come up
      have hex : ∃ i, i < n ∧ listed.getD i false = false ∧ (fun _ : Nat => true) i = true := by
        refine Classical.byContradiction fun hno => ?_
        have h0 : unl (fun j => listed.getD j false) n = 0 := by
          unfold unl
          rw [List.length_eq_zero_iff, List.filter_eq_nil_iff]
          intro x hx
          have hxn := List.mem_range.1 hx
          cases hs : listed.getD x false
          · exact absurd ⟨x, hxn, hs, rfl⟩ hno
          · show ¬ (!(listed.getD x false)) = true
            rw [hs]; decide
        omega
      have inb : ∀ i, i < n → i < listed.size := fun i hi => by rw [inv.size]; omega
      have readyOf : ∀ i, i < n → listed.getD i false = false → (∀ j, j < i → listed.getD j false = true) → i ∈ Region.ready .any l.toArray listed := fun i hi h1 h2 => by
        have hlt : i < l.toArray.size := by omega
        refine mem_ready.2 ⟨getD_in (inb i hi) h1, l.toArray[i], Array.getElem?_eq_getElem hlt, fun e he hb => ?_⟩
        have hO := one i hi _ (Array.getElem?_eq_getElem hlt)
        have h3 := Array.all_eq_true_iff_forall_mem.1 hO.back e he
        simp only [hb, Bool.not_true, Bool.false_or, decide_eq_true_eq] at h3
        exact h2 e.on h3
      have setS : ∀ j, j < n → (fun k => (listed.setIfInBounds j true).getD k false) = fun k => if k = j then true else listed.getD k false := fun j hj => by
        funext k
        by_cases hk : k = j
        · subst hk
          have := inb k hj
          simp [this]
        · rw [if_neg hk, getD_set_ne false (fun e => hk e.symm)]
      -- an operation of the prefix comes up
      have comes : ∀ j, j < n → j ∈ Region.ready .any l.toArray listed → wpOp P l.toArray Q j (fun a' w' => wpAny P .any l.toArray Q (f + (l.toArray.size - n)) (listed.setIfInBounds j true) a' w') (FR (fun k => listed.getD k false) v) w := fun j hj hr => by
        obtain ⟨hjun, o, ho, hall2⟩ := mem_ready.1 hr
        have hjf : listed.getD j false = false := getD_both hjun
        have hst := step v j hj o ho
        have hsee := sees listed v j o hj ho hr
        have hex1 := exec_same (hselS j o · · ho) hsee
        have hw1 := wanted_same hsee
        have inv' := inv.set hr hj
        have hu' : unl (fun k => (listed.setIfInBounds j true).getD k false) n = f := by
          have := unl_set (S := fun k => listed.getD k false) (S' := fun k => (listed.setIfInBounds j true).getD k false) hj hjf (by have := inb j hj; simp [this]) (fun i hi => getD_set_ne false (fun e => hi e.symm))
          omega
        have hfr := fun (u : Value) (h4 : free j = false → vf v j = u) => more (fun k => listed.getD k false) (fun k => (listed.setIfInBounds j true).getD k false) v j o u hj ho hjf (by have := inb j hj; simp [this]) (fun i hi => getD_set_ne false (fun e => hi e.symm)) h4
        have hfacts : facts Gs v w (Dat Ds j) := facts_of fun k hk => by
          have hO := one j hj o ho
          obtain ⟨e, he, hbe⟩ := Array.any_eq_true'.1 (hO.deps k hk)
          simp only [Bool.and_eq_true, beq_iff_eq] at hbe
          have h2 := hall2 e he hbe.1
          rw [hbe.2] at h2
          have h3 := Array.all_eq_true_iff_forall_mem.1 hO.back e he
          simp only [hbe.1, Bool.not_true, Bool.false_or, decide_eq_true_eq, hbe.2] at h3
          have hfk : free k = true := by
            have := allNone_mem hN (Dat_mem hDF hk)
            simp only [free, this, Option.isNone_none]
          exact hK.fact k (by omega) h2 hfk
        have hS'j : (listed.setIfInBounds j true).getD j false = true := by have := inb j hj; simp [this]
        have hS'k : ∀ k, k ≠ j → (listed.setIfInBounds j true).getD k false = listed.getD k false := fun k hk => getD_set_ne false (fun e => hk e.symm)
        -- behind a determined one
        have nextD : ∀ (c : Value) (w' : World), free j = false → vf v j = c → Up w w' → wpAny P .any l.toArray Q (f + (l.toArray.size - n)) (listed.setIfInBounds j true) ((FR (fun k => listed.getD k false) v).put o.dst c) w' := fun c w' hfj hvc hup => by
          rw [hfr c (fun _ => hvc), hfj]
          simp only [Bool.false_eq_true, if_false]
          refine ih _ v w' inv' hu' ⟨hK.up.trans hup, fun k hk hSk hfk => ?_, fun k hk hSk hfk hrk g hg => ?_, fun k k' hk hk' hSk hSk' hfk hfk' hrk hrk' hne g hg => ?_⟩
          · have hkj : k ≠ j := fun e => by subst e; rw [hfj] at hfk; cases hfk
            exact hG k _ w w' (hK.fact k hk (by rw [← hS'k k hkj]; exact hSk) hfk) hup
          · have hkj : k ≠ j := fun e => by subst e; rw [hfj] at hfk; cases hfk
            have := hK.new k hk (by rw [← hS'k k hkj]; exact hSk) hfk hrk g hg
            exact ⟨this.1, Nat.lt_of_lt_of_le this.2 hup.size⟩
          · have hkj : k ≠ j := fun e => by subst e; rw [hfj] at hfk; cases hfk
            have hkj' : k' ≠ j := fun e => by subst e; rw [hfj] at hfk'; cases hfk'
            exact hK.apart k k' hk hk' (by rw [← hS'k k hkj]; exact hSk) (by rw [← hS'k k' hkj']; exact hSk') hfk hfk' hrk hrk' hne g hg
        -- behind a free one
        have nextF : ∀ (u : Value) (w' : World), free j = true → Gat Gs j u w' → Up w w' → (fr j = true → ∀ g, blk u = some g → w.heap.size ≤ g ∧ g < w'.heap.size) → wpAny P .any l.toArray Q (f + (l.toArray.size - n)) (listed.setIfInBounds j true) ((FR (fun k => listed.getD k false) v).put o.dst u) w' := fun u w' hfj hgu hup hnew => by
          rw [hfr u (fun h => by rw [hfj] at h; cases h), hfj]
          simp only [if_true]
          have hvk : ∀ k, k ≠ j → upd v j u k = v k := fun k hk => by simp [upd, hk]
          have hvj : upd v j u j = u := by simp [upd]
          refine ih _ (upd v j u) w' inv' hu' ⟨hK.up.trans hup, fun k hk hSk hfk => ?_, fun k hk hSk hfk hrk g hg => ?_, fun k k' hk hk' hSk hSk' hfk hfk' hrk hrk' hne g hg => ?_⟩
          · by_cases hkj : k = j
            · subst hkj; rw [hvj]; exact hgu
            · rw [hvk k hkj]; exact hG k _ w w' (hK.fact k hk (by rw [← hS'k k hkj]; exact hSk) hfk) hup
          · by_cases hkj : k = j
            · subst hkj
              rw [hvj] at hg
              have := hnew hrk g hg
              exact ⟨Nat.le_trans hK.up.size this.1, this.2⟩
            · rw [hvk k hkj] at hg
              have := hK.new k hk (by rw [← hS'k k hkj]; exact hSk) hfk hrk g hg
              exact ⟨this.1, Nat.lt_of_lt_of_le this.2 hup.size⟩
          · by_cases hkj : k = j
            · subst hkj
              have hkk : k' ≠ k := fun e => hne e.symm
              rw [hvj] at hg
              rw [hvk k' hkk]
              intro hg'
              have h1 := hnew hrk g hg
              have h2 := hK.new k' hk' (by rw [← hS'k k' hkk]; exact hSk') hfk' hrk' g hg'
              omega
            · rw [hvk k hkj] at hg
              by_cases hkj' : k' = j
              · subst hkj'
                rw [hvj]
                intro hg'
                have h1 := hnew hrk' g hg'
                have h2 := hK.new k hk (by rw [← hS'k k hkj]; exact hSk) hfk hrk g hg
                omega
              · rw [hvk k' hkj']
                exact hK.apart k k' hk hk' (by rw [← hS'k k hkj]; exact hSk) (by rw [← hS'k k' hkj']; exact hSk') hfk hfk' hrk hrk' hne g hg
        unfold Go.wpOp
        simp only [ho]
        cases hc0 : (K[j]?).getD none with
        | none =>
          rw [hc0] at hst
          have hfj : free j = true := by simp only [free, hc0, Option.isNone_none]
          obtain ⟨_, hwt, hrun⟩ := hst
          rw [hw1, hwt]
          simp only [if_true]
          refine .inl ?_
          unfold Oper.wp
          rw [hex1]
          have h1 := hrun w hK.up hfacts
          generalize (execOp (FR (fun j_1 => decide (j_1 < j)) v).eval o).run P w = r at *
          cases r with
          | ok m w' =>
            cases m <;> simp only [BringsG] at h1 <;> simp only [Oper.upon]
            case value u => exact nextF u w' hfj h1.1 h1.2.1 h1.2.2
            case enter f' args => exact h1.mono fun e w'' ⟨u, he, hgu, hup, hnew⟩ => by subst he; exact nextF u w'' hfj hgu hup hnew
          | halt x w' => simp only [BringsG] at h1
        | some c =>
          rw [hc0] at hst
          have hfj : free j = false := by simp only [free, hc0, Option.isNone_some]
          have hvc : vf v j = c := by show ((K[j]?).getD none).getD _ = c; rw [hc0]; rfl
          have hdet : (Region.wanted o (yielded l.toArray (FR (fun j_1 => decide (j_1 < j)) v).tmps) = true ∧ Brings P w c ((execOp (FR (fun j_1 => decide (j_1 < j)) v).eval o).run P w)) ∨ (Region.wanted o (yielded l.toArray (FR (fun j_1 => decide (j_1 < j)) v).tmps) = false ∧ c = undef) := by
            simp only [StepOb] at hst
            split at hst
            · rcases hst with ⟨h1, h2⟩ | h2
              · exact .inl ⟨h1, by rw [h2 w]; exact ⟨rfl, Below.refl _ _⟩⟩
              · exact .inr h2
            · rcases hst with ⟨h1, h2⟩ | h2
              · exact .inl ⟨h1, h2 w hK.up hfacts⟩
              · exact .inr h2
          rcases hdet with ⟨hwt, h1⟩ | ⟨hwt, hcu⟩
          · rw [hw1, hwt]
            simp only [if_true]
            refine .inl ?_
            unfold Oper.wp
            rw [hex1]
            generalize (execOp (FR (fun j_1 => decide (j_1 < j)) v).eval o).run P w = r at *
            cases r with
            | ok m w' =>
              cases m <;> simp only [Brings] at h1 <;> simp only [Oper.upon]
              case value u => obtain ⟨rfl, h2⟩ := h1; exact nextD _ w' hfj hvc h2
              case skip => obtain ⟨rfl, h2⟩ := h1; exact nextD _ w' hfj hvc h2
              case enter f' args => exact h1.mono fun e w'' ⟨he, h2⟩ => by subst he; exact nextD _ w'' hfj hvc h2
            | halt x w' => simp only [Brings] at h1
          · rw [hw1, hwt]
            simp only [Bool.false_eq_true, if_false]
            rw [← hcu]
            exact nextD _ w hfj hvc (Below.refl _ _)
      by_cases hA : ∃ i, i < n ∧ listed.getD i false = false ∧ i ∉ F
      · -- no operation of the tail may come yet
        obtain ⟨i, hi, hif, hiF⟩ := hA
        rw [show f + 1 + (l.toArray.size - n) = (f + (l.toArray.size - n)) + 1 by omega]
        obtain ⟨i0, hi0, hi0f, _, hi0l⟩ := least_unl n hex
        refine ⟨fun h0 => ?_, fun j hj => ?_⟩
        · have := readyOf i0 hi0 hi0f (fun j hj => hi0l j hj rfl)
          rw [h0] at this; cases this
        · have hjn : j < n := by
            rcases Nat.lt_or_ge j n with hlt | hge
            · exact hlt
            · exact absurd hj (tail_waitsF hs hc hn inv _ i rfl hi hiF (getD_in (inb i hi) hif) j hge)
          exact comes j hjn hj
      · -- floats alone are left: the least of them comes first
        obtain ⟨i, hi, hif, _, hil⟩ := least_unl n hex
        have hiF : i ∈ F := Classical.byContradiction fun hno => hA ⟨i, hi, hif, hno⟩
        have hr := readyOf i hi hif (fun j hj => hil j hj rfl)
        have hlt : i < l.toArray.size := by omega
        have ho : l.toArray[i]? = some l.toArray[i] := Array.getElem?_eq_getElem hlt
        have hst := step v i hi _ ho
        have hsee := sees listed v i _ hi ho hr
        cases hc0 : (K[i]?).getD none with
        | none =>
          rw [hc0] at hst
          have : F.contains i = true := by simpa using hiF
          rw [hst.1] at this; cases this
        | some c =>
          rw [hc0] at hst
          simp only [StepOb] at hst
          rw [if_pos (by simpa using hiF)] at hst
          have hy : Yields P l.toArray l.toArray[i] c (FR (fun k => listed.getD k false) v) := hst.of_same (exec_same (hselS i _ · · ho) hsee) (wanted_same hsee)
          have hfi : free i = false := by simp only [free, hc0, Option.isNone_some]
          have hvc : vf v i = c := by show ((K[i]?).getD none).getD _ = c; rw [hc0]; rfl
          have hu' : unl (fun k => (listed.setIfInBounds i true).getD k false) n = f := by
            have := unl_set (S := fun k => listed.getD k false) (S' := fun k => (listed.setIfInBounds i true).getD k false) hi hif (by have := inb i hi; simp [this]) (fun k hk => getD_set_ne false (fun e => hk e.symm))
            omega
          have hfr := more (fun k => listed.getD k false) (fun k => (listed.setIfInBounds i true).getD k false) v i _ c hi ho hif (by have := inb i hi; simp [this]) (fun k hk => getD_set_ne false (fun e => hk e.symm)) (fun _ => hvc)
          rw [hfi] at hfr
          simp only [Bool.false_eq_true, if_false] at hfr
          have hS'k : ∀ k, k ≠ i → (listed.setIfInBounds i true).getD k false = listed.getD k false := fun k hk => getD_set_ne false (fun e => hk e.symm)
          have nk : ∀ k, free k = true → k ≠ i := fun k hk e => by subst e; rw [hfi] at hk; cases hk
          have hrest := ih (listed.setIfInBounds i true) v w (inv.set hr hi) hu' ⟨hK.up, fun k hk hSk hfk => hK.fact k hk (by rw [← hS'k k (nk k hfk)]; exact hSk) hfk, fun k hk hSk hfk hrk => hK.new k hk (by rw [← hS'k k (nk k hfk)]; exact hSk) hfk hrk,
            fun k k' hk hk' hSk hSk' hfk hfk' => hK.apart k k' hk hk' (by rw [← hS'k k (nk k hfk)]; exact hSk) (by rw [← hS'k k' (nk k' hfk')]; exact hSk') hfk hfk'⟩
          rw [show f + 1 + (l.toArray.size - n) = (f + (l.toArray.size - n)) + 1 by omega]
          refine wpAny_first ho hselS (fun c a w => hQ c a _ _ w) (f + (l.toArray.size - n)) listed _ w (fun j oj hoj hji hun hno => ?_) hr hy (by rw [hfr]; exact hrest)
          have hjlt : j < l.toArray.size := (Array.getElem?_eq_some_iff.1 hoj).1
          have hFl := fltB_spec l 0 ((one i hi _ ho).flt hiF) j oj (by simpa using hoj)
          rw [Nat.zero_add] at hFl
          have hunF := getD_both hun
          simp only [Bool.or_eq_true, Bool.and_eq_true, decide_eq_true_eq, Bool.not_eq_true'] at hFl
          rcases hFl with ((h1 | h1) | h1) | h1
          · exfalso
            have hjn : j < n := by omega
            have := hil j (by omega) rfl
            rw [hunF] at this; cases this
          · exfalso
            exact hA ⟨j, h1.1, hunF, by have := h1.2; simpa using this⟩
          · exfalso
            obtain ⟨e, he, hbe⟩ := Array.any_eq_true'.1 h1
            simp only [Bool.and_eq_true, beq_iff_eq] at hbe
            exact hno e he hbe.1 hbe.2
          · exact h1
  have inv0 : HeadInv .any l.toArray n (Array.replicate l.toArray.size false) :=
    ⟨by simp, fun j oj _ hl => (by rw [getD_replicate_false] at hl; cases hl), fun t _ ht => getD_in (by simpa using ht) (getD_replicate_false _ _)⟩
  have hu0 : unl (fun j => (Array.replicate l.toArray.size false).getD j false) n = n := by
    unfold unl
    have : (List.range n).filter (fun i => !(Array.replicate l.toArray.size false).getD i false) = List.range n := List.filter_eq_self.2 fun x _ => by rw [getD_replicate_false]; rfl
    rw [this]; simp
  refine wp_region_any hm ?_
  have e0 : FR (fun j => (Array.replicate l.toArray.size false).getD j false) (fun _ => undef) = a0 := putL_none _ _ _ (fun k _ => getD_replicate_false _ _)
  have := main n _ (fun _ => undef) _ inv0 hu0 ⟨hW, fun k _ hSk => (by rw [getD_replicate_false] at hSk; cases hSk), fun k _ hSk => (by rw [getD_replicate_false] at hSk; cases hSk), fun k _ _ _ hSk => (by rw [getD_replicate_false] at hSk; cases hSk)⟩
  rw [e0, show n + (l.toArray.size - n) = l.toArray.size by omega] at this
  exact this
end
end
end Go.Rg
