/- A region that draws its order and lays new variables: each operation but the lays yields one value in every grown world; the lays' blocks are new and unlike. -/
import Derived.StillTail
import Derived.ScopeJumps
import Derived.WalkMore
import Derived.Below
namespace Go.Rg
open Go Go.RowKit
set_option linter.unusedSimpArgs false
/-- w' is w, grown -/
abbrev Up (w w' : World) : Prop := Below w.heap.size w w'
theorem Up.trans {a b c : World} (h : Up a b) (k : Up b c) : Up a c := Below.trans h (Below.mono k h.size)
section
variable {P : Program} {ops : Array Oper} {md : Region.Mode} {W : World} {Q : Exit → Act → World → Prop} {tl : Nat}
/-- a result that is the value v, in a grown world -/
def Brings (P : Program) (w0 : World) (v : Value) : Result Next → Prop
  | .ok (.value u) w => u = v ∧ Up w0 w
  | .ok .skip w => undef = v ∧ Up w0 w
  | .ok (.enter f args) w => Calls P f args w fun e w' => e = .returned v ∧ Up w0 w'
  | _ => False
theorem brings_value {u v : Value} {w0 w : World} : Brings P w0 v (.ok (.value u) w) = (u = v ∧ Up w0 w) := rfl
theorem brings_skip {v : Value} {w0 w : World} : Brings P w0 v (.ok .skip w) = (undef = v ∧ Up w0 w) := rfl
theorem brings_enter {f : FuncId} {args : Array Value} {v : Value} {w0 w : World} : Brings P w0 v (.ok (.enter f args) w) = Calls P f args w fun e w' => e = .returned v ∧ Up w0 w' := rfl
/-- in every world that W has grown to -/
def DetAt (P : Program) (ops : Array Oper) (W : World) (o : Oper) (v : Value) (a : Act) : Prop :=
  (Region.wanted o (yielded ops a.tmps) = true ∧ ∀ w, Up W w → Brings P w v ((execOp a.eval o).run P w)) ∨
  (Region.wanted o (yielded ops a.tmps) = false ∧ v = undef)
/-- it lays a new block -/
def LayAt (P : Program) (ops : Array Oper) (o : Oper) (ob : Obj) (a : Act) : Prop :=
  Region.wanted o (yielded ops a.tmps) = true ∧ ∀ w, (execOp a.eval o).run P w = .ok (.value (.pointer (some ⟨w.heap.size, 0, none⟩))) (w.alloc ob)
theorem DetAt.of_same {o : Oper} {v : Value} {a a' : Act} (hy : DetAt P ops W o v a) (he : execOp a'.eval o = execOp a.eval o)
    (hw : Region.wanted o (yielded ops a'.tmps) = Region.wanted o (yielded ops a.tmps)) : DetAt P ops W o v a' := by
  unfold DetAt at *
  rw [he, hw]
  exact hy
theorem LayAt.of_same {o : Oper} {ob : Obj} {a a' : Act} (hy : LayAt P ops o ob a) (he : execOp a'.eval o = execOp a.eval o)
    (hw : Region.wanted o (yielded ops a'.tmps) = Region.wanted o (yielded ops a.tmps)) : LayAt P ops o ob a' := by
  unfold LayAt at *
  rw [he, hw]
  exact hy
theorem DetAt.wpOp {i : Nat} {o : Oper} {v : Value} {a : Act} {w : World} {Q : Exit → Act → World → Prop} (hi : ops[i]? = some o) (hy : DetAt P ops W o v a) (hS : Up W w)
    {K : Act → World → Prop} (h : ∀ w', Up w w' → K (a.put o.dst v) w') : wpOp P ops Q i K a w := by
  unfold Go.wpOp
  simp only [hi]
  rcases hy with ⟨hw, hv⟩ | ⟨hw, rfl⟩
  · simp only [hw, if_true]
    refine .inl ?_
    unfold Oper.wp
    have h1 := hv w hS
    generalize (execOp a.eval o).run P w = r at *
    cases r with
    | ok n w' =>
      cases n <;> simp only [Brings] at h1 <;> simp only [Oper.upon]
      case value u => obtain ⟨rfl, h2⟩ := h1; exact h _ h2
      case skip => obtain ⟨rfl, h2⟩ := h1; exact h _ h2
      case enter f args => exact h1.mono fun e w'' ⟨he, h2⟩ => by subst he; exact h _ h2
    | halt x w' => simp only [Brings] at h1
  · simp only [hw, Bool.false_eq_true, if_false]; exact h _ (Below.refl _ _)
theorem LayAt.wpOp {i : Nat} {o : Oper} {ob : Obj} {a : Act} {w : World} {Q : Exit → Act → World → Prop} (hi : ops[i]? = some o) (hy : LayAt P ops o ob a)
    {K : Act → World → Prop} (h : K (a.put o.dst (.pointer (some ⟨w.heap.size, 0, none⟩))) (w.alloc ob)) : wpOp P ops Q i K a w := by
  unfold Go.wpOp
  simp only [hi]
  obtain ⟨hw, hv⟩ := hy
  simp only [hw, if_true]
  refine .inl ?_
  unfold Oper.wp
  rw [hv w]
  exact h
/-- the blocks that were laid: numbers and what they hold -/
def Lain (w : World) : List (Nat × Obj) → Prop
  | [] => True
  | p :: r => w.heap[p.1]? = some p.2 ∧ Lain w r
theorem Lain.up {w w' : World} (h : Up w w') : ∀ {l : List (Nat × Obj)}, Lain w l → Lain w' l
  | [], _ => trivial
  | p :: r, hl => by
    refine ⟨?_, Lain.up h hl.2⟩
    have hlt : p.1 < w.heap.size := (Array.getElem?_eq_some_iff.1 hl.1).1
    have h1 := h.block p.1 hlt
    rw [h1]; exact hl.1
theorem heap_new (w : World) (o : Obj) : (w.alloc o).heap[w.heap.size]? = some o := by
  show (w.heap.push o)[w.heap.size]? = some o
  simp
theorem blk_cells {w : World} {g : Nat} {cs : Array Value} {T : TypeId} (h : w.heap[g]? = some (.cells cs T)) : ∀ i, w.cell? ⟨g, i, none⟩ = cs[i]? := fun i => by simp [World.cell?, h]
theorem blk_free {w : World} {g : Nat} {cs : Array Value} {T : TypeId} (h : w.heap[g]? = some (.cells cs T)) : ∀ i, w.frozen? ⟨g, i, none⟩ = false := fun i => by simp [World.frozen?, h]
/-- used numbers; what the world is known to hold -/
structure Known (W w : World) (U : Nat → Prop) (Ψ : World → Prop) : Prop where
  up : Up W w
  used : ∀ g, U g → g < w.heap.size
  psi : Ψ w
def Keeps (Ψ : World → Prop) : Prop := ∀ w w', Ψ w → Up w w' → Ψ w'
/-- the set of used numbers with one more; what is known with one block more -/
def more (U : Nat → Prop) (g : Nat) : Nat → Prop := fun k => k = g ∨ U k
def andBlk (Ψ : World → Prop) (g : Nat) (ob : Obj) : World → Prop := fun w => w.heap[g]? = some ob ∧ Ψ w
theorem more_comm (U : Nat → Prop) (g h : Nat) : more (more U g) h = more (more U h) g := by
  funext k; unfold more; apply propext; constructor
  · rintro (a | b | c)
    · exact .inr (.inl a)
    · exact .inl b
    · exact .inr (.inr c)
  · rintro (a | b | c)
    · exact .inr (.inl a)
    · exact .inl b
    · exact .inr (.inr c)
theorem andBlk_comm (Ψ : World → Prop) (g h : Nat) (a b : Obj) : andBlk (andBlk Ψ g a) h b = andBlk (andBlk Ψ h b) g a := by
  funext k; unfold andBlk; apply propext; constructor
  · rintro ⟨x, y, z⟩; exact ⟨y, x, z⟩
  · rintro ⟨x, y, z⟩; exact ⟨y, x, z⟩
theorem keeps_andBlk {Ψ : World → Prop} (h : Keeps Ψ) (g : Nat) (ob : Obj) : Keeps (andBlk Ψ g ob) := fun w w' ⟨h1, h2⟩ hu => by
  refine ⟨?_, h w w' h2 hu⟩
  have hlt : g < w.heap.size := (Array.getElem?_eq_some_iff.1 h1).1
  have h3 := hu.block g hlt
  rw [h3]; exact h1
theorem fresh_of {W : World} {U : Nat → Prop} (h : ∃ B, ∀ g, U g → g < B) : ∃ g0, W.heap.size ≤ g0 ∧ ¬ U g0 := by
  obtain ⟨B, hB⟩ := h
  exact ⟨W.heap.size + B, by omega, fun hu => by have := hB _ hu; omega⟩
abbrev Fin := (Nat → Prop) → (World → Prop) → Array Bool → Act → Prop
/-- whatever order is picked from here on; 'b': operations that lay alone -/
def wpAnyU (P : Program) (md : Region.Mode) (ops : Array Oper) (Q : Exit → Act → World → Prop) (tl : Nat) (W : World) (n : Nat) (L : Fin) (b : Bool) : Nat → (Nat → Prop) → (World → Prop) → Array Bool → Act → Prop
  | 0, U, Ψ, listed, a => L U Ψ listed a
  | f + 1, U, Ψ, listed, a =>
    Region.ready md ops listed ≠ [] ∧ ∀ i ∈ Region.ready md ops listed, (i < n ∧ ∃ o, ops[i]? = some o ∧
      ((b = false ∧ ∃ v, DetAt P ops W o v a ∧ wpAnyU P md ops Q tl W n L b f U Ψ (listed.setIfInBounds i true) (a.put o.dst v)) ∨
       (∃ ob, LayAt P ops o ob a ∧ ∀ g, W.heap.size ≤ g → ¬ U g → wpAnyU P md ops Q tl W n L b f (more U g) (andBlk Ψ g ob) (listed.setIfInBounds i true) (a.put o.dst (.pointer (some ⟨g, 0, none⟩)))))) ∨
      (n ≤ i ∧ ∀ w, Known W w U Ψ → wpOp P ops Q i (wpAny P md ops Q (f + tl) (listed.setIfInBounds i true)) a w)
theorem wpAnyU_weak {n : Nat} {L : Fin} : ∀ (f : Nat) (U : Nat → Prop) (Ψ : World → Prop) (listed : Array Bool) (a : Act), wpAnyU P md ops Q tl W n L true f U Ψ listed a → wpAnyU P md ops Q tl W n L false f U Ψ listed a
  | 0, _, _, _, _, h => h
  | f + 1, U, Ψ, listed, a, h => by
    refine ⟨h.1, fun i hi => ?_⟩
    rcases h.2 i hi with ⟨hin, o, ho, h2⟩ | h5
    · refine .inl ⟨hin, o, ho, ?_⟩
      rcases h2 with ⟨h3, _⟩ | ⟨ob, h3, h4⟩
      · cases h3
      · exact .inr ⟨ob, h3, fun g hg hu => wpAnyU_weak f _ _ _ _ (h4 g hg hu)⟩
    · exact .inr h5
theorem wpAny_of_U {n g : Nat} {L : Fin} (hL : ∀ U Ψ listed a, L U Ψ listed a → ∀ w, Known W w U Ψ → wpAny P md ops Q g listed a w) :
    ∀ (f : Nat) (U : Nat → Prop) (Ψ : World → Prop) (listed : Array Bool) (a : Act), Keeps Ψ → wpAnyU P md ops Q g W n L false f U Ψ listed a → ∀ w, Known W w U Ψ → wpAny P md ops Q (f + g) listed a w
  | 0, U, Ψ, listed, a, _, h, w, hS => by rw [Nat.zero_add]; exact hL _ _ _ _ h w hS
  | f + 1, U, Ψ, listed, a, hk, h, w, hS => by
    rw [show f + 1 + g = (f + g) + 1 by omega]
    refine ⟨fun h0 => absurd h0 h.1, fun i hi => ?_⟩
    rcases h.2 i hi with ⟨_, o, ho, h2⟩ | ⟨_, h2⟩
    case inr => exact h2 w hS
    rcases h2 with ⟨_, v, hy, h3⟩ | ⟨ob, hy, h3⟩
    · exact hy.wpOp ho hS.up fun w' hu => wpAny_of_U hL f _ _ _ _ hk h3 w' ⟨hS.up.trans hu, fun g hg => Nat.lt_of_lt_of_le (hS.used g hg) hu.size, hk w w' hS.psi hu⟩
    · have hu : Up w (w.alloc ob) := Below.alloc (Below.refl _ _) (Nat.le_refl _) ob
      refine hy.wpOp ho (wpAny_of_U hL f _ _ _ _ (keeps_andBlk hk _ _) (h3 w.heap.size hS.up.size fun hug => Nat.lt_irrefl _ (hS.used _ hug)) _ ⟨hS.up.trans hu, fun g hg => ?_, heap_new w ob, hk w _ hS.psi hu⟩)
      have hsz : (w.alloc ob).heap.size = w.heap.size + 1 := by simp
      rcases hg with rfl | hg
      · omega
      · have := hS.used g hg; omega
/-- every operation ahead of the tail, but those of F, is waited for by a later one of them, or by the tail's first -/
def sinkF (md : Region.Mode) (ops : Array Oper) (n : Nat) (F : List Nat) : Bool :=
  (List.range n).all fun i => F.contains i || (List.range (n + 1)).any fun j => decide (i < j) && !F.contains j && Region.waitsFor md ops j i
theorem tail_waitsF {n : Nat} {F : List Nat} {listed : Array Bool} (hs : sinkF md ops n F = true) (hc : Region.chainB md ops n = true) (hn : n < ops.size) (inv : HeadInv md ops n listed) :
    ∀ (d i : Nat), n - i = d → i < n → i ∉ F → listed.getD i true = false → ∀ t, n ≤ t → t ∉ Region.ready md ops listed := by
  intro d
  induction d using Nat.strongRecOn with
  | _ d ih =>
    intro i hd hi hiF hun t ht hr
    obtain ⟨_, ot, hot, hall⟩ := mem_ready.1 hr
    have htlt : t < ops.size := (Array.getElem?_eq_some_iff.1 hot).1
    by_cases htn : t = n
    · subst htn
      have h1 := List.all_eq_true.1 hs i (List.mem_range.2 hi)
      rw [Bool.or_eq_true] at h1
      rcases h1 with h1 | h1
      · exact hiF (by simpa using h1)
      obtain ⟨j, hj, hj2⟩ := List.any_eq_true.1 h1
      simp only [Bool.and_eq_true, decide_eq_true_eq, Bool.not_eq_true'] at hj2
      obtain ⟨oj, hoj, e, he, hb, hon⟩ := Region.waitsFor_spec hj2.2
      have hjF : j ∉ F := by have := hj2.1.2; simpa using this
      have hjle : j ≤ t := by have := List.mem_range.1 hj; omega
      by_cases hjt : j = t
      · subst hjt
        have : oj = ot := Option.some.inj (hoj.symm.trans hot)
        subst this
        have h2 := hall e he hb
        rw [hon, getD_both hun] at h2
        cases h2
      · cases hl : listed.getD j false with
        | true =>
          have h2 := inv.closed j oj hoj hl e he hb
          rw [hon, getD_both hun] at h2
          cases h2
        | false =>
          have hjs : j < listed.size := by rw [inv.size]; omega
          exact ih (t - j) (by omega) j rfl (by omega) hjF (getD_in hjs hl) t (Nat.le_refl _) hr
    · have h1 := List.all_eq_true.1 hc t (List.mem_range.2 htlt)
      simp only [Bool.or_eq_true, decide_eq_true_eq] at h1
      rcases h1 with h1 | h1
      · omega
      · obtain ⟨o', ho', e, he, hb, hon⟩ := Region.waitsFor_spec h1
        have : o' = ot := Option.some.inj (ho'.symm.trans hot)
        subst this
        have h2 := hall e he hb
        rw [hon, getD_both (inv.tail (t - 1) (by omega) (by omega))] at h2
        cases h2
theorem DetAt.put {oi oj : Oper} {v u : Value} {a : Act} (hap : oi.apart ops oj = true) (hsi : ∀ cs b, oi.op ≠ .select cs b)
    (hy : DetAt P ops W oi v a) : DetAt P ops W oi v (a.put oj.dst u) := by
  obtain ⟨h1, h2, h3⟩ := Oper.apart_spec hap
  exact hy.of_same (execOp_put oi hsi a oj.dst u h3) (wanted_put oi a oj.dst u h3)
theorem LayAt.put {oi oj : Oper} {ob : Obj} {u : Value} {a : Act} (hap : oi.apart ops oj = true) (hsi : ∀ cs b, oi.op ≠ .select cs b)
    (hy : LayAt P ops oi ob a) : LayAt P ops oi ob (a.put oj.dst u) := by
  obtain ⟨h1, h2, h3⟩ := Oper.apart_spec hap
  exact hy.of_same (execOp_put oi hsi a oj.dst u h3) (wanted_put oi a oj.dst u h3)
section
variable {n i : Nat} {oi : Oper} {L : Fin} (hi : ops[i]? = some oi) (hsel : ∀ (j : Nat) (o : Oper) cs b, ops[j]? = some o → o.op ≠ .select cs b)
    {F : List Nat} (hs : sinkF md ops n F = true) (hc : Region.chainB md ops n = true) (hn : n < ops.size) (hin : i < n) (hiF : i ∉ F)
    (hdone : ∀ U Ψ listed a, L U Ψ listed a → ∀ j ∈ Region.ready md ops listed, n ≤ j)
include hi hsel hs hc hn hin hiF hdone
theorem detU_first {v : Value} :
    ∀ (f : Nat) (U : Nat → Prop) (Ψ : World → Prop) (listed : Array Bool) (a : Act), HeadInv md ops n listed →
      (∀ j oj, ops[j]? = some oj → j ≠ i → listed.getD j true = false → (∀ e ∈ oj.after, Region.binds md e = true → e.on ≠ i) → oi.apart ops oj = true) →
      i ∈ Region.ready md ops listed → DetAt P ops W oi v a →
      wpAnyU P md ops Q tl W n L false f U Ψ (listed.setIfInBounds i true) (a.put oi.dst v) → wpAnyU P md ops Q tl W n L false (f + 1) U Ψ listed a := by
  intro f
  induction f with
  | zero =>
    intro U Ψ listed a inv _ hr hy H
    have hun := (mem_ready.1 hr).1
    refine ⟨fun h => (by rw [h] at hr; cases hr), fun j hj => ?_⟩
    have hjn : j < n := by
      rcases Nat.lt_or_ge j n with h | h
      · exact h
      · exact absurd hj (tail_waitsF hs hc hn inv _ i rfl hin hiF hun j h)
    refine .inl ⟨hjn, ?_⟩
    by_cases hji : j = i
    · subst hji; exact ⟨oi, hi, .inl ⟨rfl, v, hy, H⟩⟩
    · have := hdone _ _ _ _ H j (ready_mono hj hji)
      omega
  | succ f ih =>
    intro U Ψ listed a inv hfree hr hy H
    have hun := (mem_ready.1 hr).1
    refine ⟨fun h => (by rw [h] at hr; cases hr), fun j hj => ?_⟩
    have hjn : j < n := by
      rcases Nat.lt_or_ge j n with h | h
      · exact h
      · exact absurd hj (tail_waitsF hs hc hn inv _ i rfl hin hiF hun j h)
    refine .inl ⟨hjn, ?_⟩
    by_cases hji : j = i
    · subst hji; exact ⟨oi, hi, .inl ⟨rfl, v, hy, H⟩⟩
    · rcases H.2 j (ready_mono hj hji) with ⟨_, oj, hoj, H2⟩ | ⟨hge, _⟩
      case inr => omega
      obtain ⟨hjun, oj', hoj', hall⟩ := mem_ready.1 hj
      have hnot : ∀ e ∈ oj.after, Region.binds md e = true → e.on ≠ i := fun e he hb heq => by
        have : oj = oj' := Option.some.inj (hoj.symm.trans hoj')
        subst this
        have h1 := hall e he hb
        rw [heq, getD_both hun] at h1
        cases h1
      have hap := hfree j oj hoj hji hjun hnot
      obtain ⟨a1, a2, a3⟩ := Oper.apart_spec hap
      have he := (execOp_put oj (fun cs b => hsel j oj cs b hoj) a oi.dst v a1).symm
      have hw := (wanted_put oj a oi.dst v a1).symm
      have hfree' : ∀ k ok, ops[k]? = some ok → k ≠ i → (listed.setIfInBounds j true).getD k true = false →
          (∀ e ∈ ok.after, Region.binds md e = true → e.on ≠ i) → oi.apart ops ok = true := fun k ok hk hki hun hno => by
        refine hfree k ok hk hki ?_ hno
        by_cases hjk : j = k
        · subst hjk; exact hjun
        · rw [getD_set_ne true hjk] at hun; exact hun
      refine ⟨oj, hoj, ?_⟩
      rcases H2 with ⟨_, vj, hyj, H3⟩ | ⟨ob, hyj, H3⟩
      · refine .inl ⟨rfl, vj, hyj.of_same he hw, ih U Ψ (listed.setIfInBounds j true) _ (inv.set hj hjn) hfree' (ready_mono hr (Ne.symm hji)) (DetAt.put hap (fun cs b => hsel i oi cs b hi) hy) ?_⟩
        rw [Array.setIfInBounds_comm _ _ hji, Act.put_comm a vj v fun d hd hd2 => a2 d hd2 hd]
        exact H3
      · refine .inr ⟨ob, hyj.of_same he hw, fun g hg hu => ih _ _ (listed.setIfInBounds j true) _ (inv.set hj hjn) hfree' (ready_mono hr (Ne.symm hji)) (DetAt.put hap (fun cs b => hsel i oi cs b hi) hy) ?_⟩
        rw [Array.setIfInBounds_comm _ _ hji, Act.put_comm a _ v fun d hd hd2 => a2 d hd2 hd]
        exact H3 g hg hu
theorem layU_first {ob : Obj} :
    ∀ (f : Nat) (U : Nat → Prop) (Ψ : World → Prop) (listed : Array Bool) (a : Act), HeadInv md ops n listed →
      (∀ j oj, ops[j]? = some oj → j ≠ i → listed.getD j true = false → (∀ e ∈ oj.after, Region.binds md e = true → e.on ≠ i) → oi.apart ops oj = true) →
      i ∈ Region.ready md ops listed → LayAt P ops oi ob a →
      (∃ B, ∀ g, U g → g < B) →
      (∀ g, W.heap.size ≤ g → ¬ U g → wpAnyU P md ops Q tl W n L true f (more U g) (andBlk Ψ g ob) (listed.setIfInBounds i true) (a.put oi.dst (.pointer (some ⟨g, 0, none⟩)))) → wpAnyU P md ops Q tl W n L true (f + 1) U Ψ listed a := by
  intro f
  induction f with
  | zero =>
    intro U Ψ listed a inv _ hr hy hex H
    have hun := (mem_ready.1 hr).1
    refine ⟨fun h => (by rw [h] at hr; cases hr), fun j hj => ?_⟩
    have hjn : j < n := by
      rcases Nat.lt_or_ge j n with h | h
      · exact h
      · exact absurd hj (tail_waitsF hs hc hn inv _ i rfl hin hiF hun j h)
    refine .inl ⟨hjn, ?_⟩
    by_cases hji : j = i
    · subst hji; exact ⟨oi, hi, .inr ⟨ob, hy, H⟩⟩
    · obtain ⟨g0, hg0, hu0⟩ := fresh_of (W := W) hex
      have := hdone _ _ _ _ (H g0 hg0 hu0) j (ready_mono hj hji)
      omega
  | succ f ih =>
    intro U Ψ listed a inv hfree hr hy hex H
    have hun := (mem_ready.1 hr).1
    refine ⟨fun h => (by rw [h] at hr; cases hr), fun j hj => ?_⟩
    have hjn : j < n := by
      rcases Nat.lt_or_ge j n with h | h
      · exact h
      · exact absurd hj (tail_waitsF hs hc hn inv _ i rfl hin hiF hun j h)
    refine .inl ⟨hjn, ?_⟩
    by_cases hji : j = i
    · subst hji; exact ⟨oi, hi, .inr ⟨ob, hy, H⟩⟩
    · obtain ⟨g0, hg0, hu0⟩ := fresh_of (W := W) hex
      obtain ⟨hjun, oj, hoj, hall⟩ := mem_ready.1 hj
      have hnot : ∀ e ∈ oj.after, Region.binds md e = true → e.on ≠ i := fun e he hb heq => by
        have h1 := hall e he hb
        rw [heq, getD_both hun] at h1
        cases h1
      have hap := hfree j oj hoj hji hjun hnot
      obtain ⟨a1, a2, a3⟩ := Oper.apart_spec hap
      have hfree' : ∀ k ok, ops[k]? = some ok → k ≠ i → (listed.setIfInBounds j true).getD k true = false →
          (∀ e ∈ ok.after, Region.binds md e = true → e.on ≠ i) → oi.apart ops ok = true := fun k ok hk hki hun hno => by
        refine hfree k ok hk hki ?_ hno
        by_cases hjk : j = k
        · subst hjk; exact hjun
        · rw [getD_set_ne true hjk] at hun; exact hun
      -- what j lays does not hang on the number
      have key : ∀ g, W.heap.size ≤ g → ¬ U g → ∃ obj, LayAt P ops oj obj a ∧ ∀ h, W.heap.size ≤ h → ¬ more U g h → wpAnyU P md ops Q tl W n L true f (more (more U g) h) (andBlk (andBlk Ψ g ob) h obj) ((listed.setIfInBounds i true).setIfInBounds j true) ((a.put oi.dst (.pointer (some ⟨g, 0, none⟩))).put oj.dst (.pointer (some ⟨h, 0, none⟩))) := fun g hg hu => by
        rcases (H g hg hu).2 j (ready_mono hj hji) with ⟨_, oj2, hoj2, H2⟩ | ⟨hge, _⟩
        case inr => omega
        have e1 : oj2 = oj := Option.some.inj (hoj2.symm.trans hoj)
        subst e1
        rcases H2 with ⟨h3, _⟩ | ⟨obj, hyj, H3⟩
        · cases h3
        · exact ⟨obj, hyj.of_same (execOp_put oj2 (fun cs b => hsel j oj2 cs b hoj) a oi.dst _ a1).symm (wanted_put oj2 a oi.dst _ a1).symm, H3⟩
      obtain ⟨objj, hyj, _⟩ := key g0 hg0 hu0
      have same : ∀ obj, LayAt P ops oj obj a → obj = objj := fun obj h => by
        have h1 := h.2 W
        rw [hyj.2 W] at h1
        injection h1 with h2 h3
        have h4 := heap_new W objj
        rw [h3, heap_new W obj] at h4
        exact Option.some.inj h4
      refine ⟨oj, hoj, .inr ⟨objj, hyj, fun h hh hu => ?_⟩⟩
      refine ih _ _ (listed.setIfInBounds j true) _ (inv.set hj hjn) hfree' (ready_mono hr (Ne.symm hji)) (LayAt.put hap (fun cs b => hsel i oi cs b hi) hy) ?_ ?_
      · obtain ⟨B, hB⟩ := hex
        exact ⟨B + h + 1, fun g hm => hm.elim (fun e => by omega) (fun e => by have := hB g e; omega)⟩
      · intro g hg hum
        have hne : g ≠ h := fun e => hum (.inl e)
        have hug : ¬ U g := fun e => hum (.inr e)
        obtain ⟨obj, hyj2, H3⟩ := key g hg hug
        have e1 := same obj hyj2
        subst e1
        have H4 := H3 h hh (fun hm => hm.elim (fun e => hne e.symm) hu)
        rw [Array.setIfInBounds_comm _ _ hji, Act.put_comm a _ _ fun d hd hd2 => a2 d hd2 hd, more_comm, andBlk_comm]
        exact H4
end
/-- an operation that looks at no world may be taken first, whatever else may come up -/
theorem fltU_first {n i : Nat} {oi : Oper} {v : Value} {L : Fin} (hi : ops[i]? = some oi) (hsel : ∀ (j : Nat) (o : Oper) cs b, ops[j]? = some o → o.op ≠ .select cs b) (hin : i < n)
    (hQ : ∀ c (a : Act) d u w, Q (.panic c) (a.put d u) w → Q (.panic c) a w)
    (hdone : ∀ U Ψ listed a, L U Ψ listed a → ∀ w, Known W w U Ψ → wpAny P md ops Q tl listed a w)
    (hlast : ∀ U Ψ listed a, L U Ψ listed a → ∀ j ∈ Region.ready md ops listed, n ≤ j) :
    ∀ (f : Nat) (U : Nat → Prop) (Ψ : World → Prop) (listed : Array Bool) (a : Act),
      (∀ j oj, ops[j]? = some oj → j ≠ i → listed.getD j true = false → (∀ e ∈ oj.after, Region.binds md e = true → e.on ≠ i) → oi.apart ops oj = true) →
      i ∈ Region.ready md ops listed → Yields P ops oi v a →
      wpAnyU P md ops Q tl W n L false f U Ψ (listed.setIfInBounds i true) (a.put oi.dst v) → wpAnyU P md ops Q tl W n L false (f + 1) U Ψ listed a := by
  have det : ∀ {a : Act}, Yields P ops oi v a → DetAt P ops W oi v a := fun {a} hy => by
    rcases hy with ⟨h1, h2⟩ | h
    · exact .inl ⟨h1, fun w _ => by rw [h2 w]; exact ⟨rfl, Below.refl _ _⟩⟩
    · exact .inr h
  have raw : ∀ (m : Nat) (listed : Array Bool) (a : Act) (j : Nat) (oj : Oper), ops[j]? = some oj → j ≠ i → i ∈ Region.ready md ops listed → j ∈ Region.ready md ops listed → oi.apart ops oj = true →
      (∀ k ok, ops[k]? = some ok → k ≠ i → (listed.setIfInBounds j true).getD k true = false → (∀ e ∈ ok.after, Region.binds md e = true → e.on ≠ i) → oi.apart ops ok = true) →
      Yields P ops oi v a → ∀ w, wpOp P ops Q j (wpAny P md ops Q m ((listed.setIfInBounds i true).setIfInBounds j true)) (a.put oi.dst v) w →
      wpOp P ops Q j (wpAny P md ops Q (m + 1) (listed.setIfInBounds j true)) a w := fun m listed a j oj hoj hji hr hj hap hfree' hy w h => by
    have h2 := wpOp_put hoj hap (fun cs b => hsel i oi cs b hi) (fun cs b => hsel j oj cs b hoj) (fun c a w => hQ c a _ _ w) hy h
    refine wpOp_mono (fun a' w' h3 => wpAny_first hi hsel (fun c a w => hQ c a _ _ w) m (listed.setIfInBounds j true) a' w' hfree' (ready_mono hr (Ne.symm hji)) h3.1 ?_) h2
    rw [Array.setIfInBounds_comm _ _ hji]
    exact h3.2
  have waits : ∀ (listed : Array Bool) (j : Nat) (oj : Oper), ops[j]? = some oj → i ∈ Region.ready md ops listed → j ∈ Region.ready md ops listed → ∀ e ∈ oj.after, Region.binds md e = true → e.on ≠ i := fun listed j oj hoj hr hj e he hb heq => by
    have hun := (mem_ready.1 hr).1
    obtain ⟨_, oj', hoj', hall⟩ := mem_ready.1 hj
    have : oj = oj' := Option.some.inj (hoj.symm.trans hoj')
    subst this
    have h1 := hall e he hb
    rw [heq, getD_both hun] at h1
    cases h1
  have freed : ∀ (listed : Array Bool) (j : Nat), listed.getD j true = false → (∀ k ok, ops[k]? = some ok → k ≠ i → listed.getD k true = false → (∀ e ∈ ok.after, Region.binds md e = true → e.on ≠ i) → oi.apart ops ok = true) →
      ∀ k ok, ops[k]? = some ok → k ≠ i → (listed.setIfInBounds j true).getD k true = false → (∀ e ∈ ok.after, Region.binds md e = true → e.on ≠ i) → oi.apart ops ok = true := fun listed j hjun hfree k ok hk hki hun hno => by
    refine hfree k ok hk hki ?_ hno
    by_cases hjk : j = k
    · subst hjk; exact hjun
    · rw [getD_set_ne true hjk] at hun; exact hun
  intro f
  induction f with
  | zero =>
    intro U Ψ listed a hfree hr hy H
    refine ⟨fun h => (by rw [h] at hr; cases hr), fun j hj => ?_⟩
    by_cases hji : j = i
    · subst hji; exact .inl ⟨hin, oi, hi, .inl ⟨rfl, v, det hy, H⟩⟩
    · have hj2 := ready_mono hj hji
      have hnj := hlast _ _ _ _ H j hj2
      obtain ⟨hjun, oj, hoj, hall⟩ := mem_ready.1 hj
      refine .inr ⟨hnj, fun w hK => ?_⟩
      have h1 := hdone _ _ _ _ H w hK
      cases tl with
      | zero => rw [h1.1] at hj2; cases hj2
      | succ t =>
        rw [Nat.zero_add]
        exact raw t listed a j oj hoj hji hr hj (hfree j oj hoj hji hjun (waits listed j oj hoj hr hj)) (freed listed j hjun hfree) hy w (h1.2 j hj2)
  | succ f ih =>
    intro U Ψ listed a hfree hr hy H
    refine ⟨fun h => (by rw [h] at hr; cases hr), fun j hj => ?_⟩
    by_cases hji : j = i
    · subst hji; exact .inl ⟨hin, oi, hi, .inl ⟨rfl, v, det hy, H⟩⟩
    · have hj2 := ready_mono hj hji
      obtain ⟨hjun, oj', hoj', hall⟩ := mem_ready.1 hj
      have hap := hfree j oj' hoj' hji hjun (waits listed j oj' hoj' hr hj)
      have hfree' := freed listed j hjun hfree
      have ykeep : ∀ u, Yields P ops oi v (a.put oj'.dst u) := fun u => by
        obtain ⟨h1, h2, h3⟩ := Oper.apart_spec hap
        exact hy.of_same (execOp_put oi (fun cs b => hsel i oi cs b hi) a oj'.dst u h3) (wanted_put oi a oj'.dst u h3)
      rcases H.2 j hj2 with ⟨hjn, oj, hoj, H2⟩ | ⟨hge, H2⟩
      · have e0 : oj = oj' := Option.some.inj (hoj.symm.trans hoj')
        subst e0
        obtain ⟨a1, a2, a3⟩ := Oper.apart_spec hap
        have he := (execOp_put oj (fun cs b => hsel j oj cs b hoj) a oi.dst v a1).symm
        have hw := (wanted_put oj a oi.dst v a1).symm
        refine .inl ⟨hjn, oj, hoj, ?_⟩
        rcases H2 with ⟨_, vj, hyj, H3⟩ | ⟨ob, hyj, H3⟩
        · refine .inl ⟨rfl, vj, hyj.of_same he hw, ih U Ψ (listed.setIfInBounds j true) _ hfree' (ready_mono hr (Ne.symm hji)) (ykeep _) ?_⟩
          rw [Array.setIfInBounds_comm _ _ hji, Act.put_comm a vj v fun d hd hd2 => a2 d hd2 hd]
          exact H3
        · refine .inr ⟨ob, hyj.of_same he hw, fun g hg hu => ih _ _ (listed.setIfInBounds j true) _ hfree' (ready_mono hr (Ne.symm hji)) (ykeep _) ?_⟩
          rw [Array.setIfInBounds_comm _ _ hji, Act.put_comm a _ v fun d hd hd2 => a2 d hd2 hd]
          exact H3 g hg hu
      · refine .inr ⟨hge, fun w hK => ?_⟩
        rw [show f + 1 + tl = (f + tl) + 1 by omega]
        exact raw (f + tl) listed a j oj' hoj' hji hr hj hap hfree' hy w (H2 w hK)
/-- the lays, one behind the other -/
def wpLays (P : Program) (ops : Array Oper) (W : World) (a0 : Act) (L : (Nat → Prop) → (World → Prop) → Act → Prop) : List Oper → (Nat → Prop) → (World → Prop) → Act → Prop
  | [], U, Ψ, a => L U Ψ a
  | o :: r, U, Ψ, a => ∃ ob, LayAt P ops o ob a0 ∧ ∀ g, W.heap.size ≤ g → ¬ U g → wpLays P ops W a0 L r (more U g) (andBlk Ψ g ob) (a.put o.dst (.pointer (some ⟨g, 0, none⟩)))
/-- ahead of them those that look at no world -/
def wpFlts (P : Program) (ops : Array Oper) (W : World) (L : (Nat → Prop) → (World → Prop) → Act → Prop) (lays : List Oper) : List Oper → Act → Prop
  | [], a => wpLays P ops W a L lays (fun _ => False) (fun _ => True) a
  | o :: r, a => ∃ v, Yields P ops o v a ∧ wpFlts P ops W L lays r (a.put o.dst v)
/-- the others ahead of them -/
def wpDets (P : Program) (ops : Array Oper) (W : World) (L : (Nat → Prop) → (World → Prop) → Act → Prop) (lays flts : List Oper) : List Oper → Act → Prop
  | [], a => wpFlts P ops W L lays flts a
  | o :: r, a => ∃ v, DetAt P ops W o v a ∧ wpDets P ops W L lays flts r (a.put o.dst v)
/-- may the operations come in this order? -/
def orderB (md : Region.Mode) (ops : Array Oper) (n g : Nat) : List Nat → Array Bool → Bool
  | [], listed => Region.seqB md ops g n listed
  | k :: r, listed => decide (k < n) && (Region.ready md ops listed).contains k && Region.free md ops listed k && orderB md ops n g r (listed.setIfInBounds k true)
def opsAt (ops : Array Oper) (l : List Nat) : List Oper := l.filterMap (fun k => ops[k]?)
/-- do the lays leave each other's sight alone? -/
def apartB (ops : Array Oper) (l : List Nat) : Bool := l.all fun i => l.all fun j => decide (i = j) || (match ops[i]?, ops[j]? with | some a, some b => a.apart ops b | _, _ => false)
section
variable {n : Nat} {Lq : (Nat → Prop) → (World → Prop) → Act → Prop} (hsel : Region.noSelect ops = true) {F : List Nat} (hs : sinkF md ops n F = true) (hc : Region.chainB md ops n = true) (hn : n < ops.size)
/-- how a plan ends -/
def Ends (md : Region.Mode) (ops : Array Oper) (tl n : Nat) (Lq : (Nat → Prop) → (World → Prop) → Act → Prop) : Fin := fun U Ψ listed' a' => Region.seqB md ops tl n listed' = true ∧ Lq U Ψ a'
include hsel hs hc hn
theorem laysU_lex (a0 : Act) :
    ∀ (ks : List Nat) (listed : Array Bool) (U : Nat → Prop) (Ψ : World → Prop) (a : Act), HeadInv md ops n listed → (∃ B, ∀ g, U g → g < B) →
    (∀ k ∈ ks, ∀ o ob, ops[k]? = some o → LayAt P ops o ob a0 → LayAt P ops o ob a) → ks.Nodup → (∀ k ∈ ks, k ∉ F) →
    (∀ i ∈ ks, ∀ j ∈ ks, i ≠ j → ∀ x y, ops[i]? = some x → ops[j]? = some y → x.apart ops y = true) →
    orderB md ops n tl ks listed = true → wpLays P ops W a0 Lq (opsAt ops ks) U Ψ a →
    wpAnyU P md ops Q tl W n (Ends md ops tl n Lq) true ks.length U Ψ listed a
  | [], listed, U, Ψ, a, _, _, _, _, _, _, hB, h => ⟨by simpa [orderB] using hB, h⟩
  | k :: r, listed, U, Ψ, a, inv, hb, hlay, hnd, hkF, hap, hB, h => by
    simp only [orderB, Bool.and_eq_true, decide_eq_true_eq] at hB
    obtain ⟨⟨⟨hkn, hr⟩, hf⟩, hB'⟩ := hB
    have hr' : k ∈ Region.ready md ops listed := by simpa using hr
    have hklt : k < ops.size := by omega
    have h0 : ops[k]? = some ops[k] := Array.getElem?_eq_getElem hklt
    have hcons : opsAt ops (k :: r) = ops[k] :: opsAt ops r := by simp [opsAt, h0]
    rw [hcons] at h
    obtain ⟨ob, hy, hK⟩ := h
    have hnk : k ∉ r := (List.nodup_cons.1 hnd).1
    refine layU_first h0 (Region.noSelect_spec hsel) hs hc hn hkn (hkF k (by simp)) (fun U' Ψ' listed' a' hL => seqB_ready hL.1) r.length U Ψ listed a inv (Region.free_spec h0 hf) hr' (hlay k (by simp) _ _ h0 hy) hb (fun g hg hu => ?_)
    refine laysU_lex a0 r _ _ _ _ (inv.set hr' hkn) ?_ ?_ (List.nodup_cons.1 hnd).2 (fun i hi => hkF i (by simp [hi])) (fun i hi j hj => hap i (by simp [hi]) j (by simp [hj])) hB' (hK g hg hu)
    · obtain ⟨B, hB⟩ := hb
      exact ⟨B + g + 1, fun g' hm => hm.elim (fun e => by omega) (fun e => by have := hB g' e; omega)⟩
    · intro k' hk' o' ob' ho' hl'
      have hne : k' ≠ k := fun e => by subst e; exact hnk hk'
      exact LayAt.put (hap k' (by simp [hk']) k (by simp) hne _ _ ho' h0) (fun cs b => Region.noSelect_spec hsel k' o' cs b ho') (hlay k' (by simp [hk']) _ _ ho' hl')
variable (kb : List Nat) (hnd : kb.Nodup) (hkF : ∀ k ∈ kb, k ∉ F)
    (hap : ∀ i ∈ kb, ∀ j ∈ kb, i ≠ j → ∀ x y, ops[i]? = some x → ops[j]? = some y → x.apart ops y = true)
    (hQ : ∀ c (a : Act) d u w, Q (.panic c) (a.put d u) w → Q (.panic c) a w)
    (hE : ∀ U Ψ listed a, Ends md ops tl n Lq U Ψ listed a → ∀ w, Known W w U Ψ → wpAny P md ops Q tl listed a w)
include hnd hkF hap hQ hE
theorem fltsU_lex :
    ∀ (ks : List Nat) (listed : Array Bool) (a : Act), HeadInv md ops n listed →
    orderB md ops n tl (ks ++ kb) listed = true → wpFlts P ops W Lq (opsAt ops kb) (opsAt ops ks) a →
    wpAnyU P md ops Q tl W n (Ends md ops tl n Lq) false (ks.length + kb.length) (fun _ => False) (fun _ => True) listed a
  | [], listed, a, inv, hB, h => by
    have h1 := laysU_lex (W := W) (Q := Q) (tl := tl) (Lq := Lq) hsel hs hc hn a kb listed (fun _ => False) (fun _ => True) a inv ⟨0, fun _ h => h.elim⟩ (fun _ _ _ _ _ h => h) hnd hkF hap hB h
    have h2 := wpAnyU_weak _ _ _ _ _ h1
    simpa using h2
  | k :: r, listed, a, inv, hB, h => by
    simp only [List.cons_append, orderB, Bool.and_eq_true, decide_eq_true_eq] at hB
    obtain ⟨⟨⟨hkn, hr⟩, hf⟩, hB'⟩ := hB
    have hr' : k ∈ Region.ready md ops listed := by simpa using hr
    have hklt : k < ops.size := by omega
    have h0 : ops[k]? = some ops[k] := Array.getElem?_eq_getElem hklt
    have hcons : opsAt ops (k :: r) = ops[k] :: opsAt ops r := by simp [opsAt, h0]
    rw [hcons] at h
    obtain ⟨v, hy, hK⟩ := h
    have h3 := fltU_first h0 (Region.noSelect_spec hsel) hkn hQ hE (fun U' Ψ' listed' a' hL => seqB_ready hL.1) (r.length + kb.length) (fun _ => False) (fun _ => True) listed a (Region.free_spec h0 hf) hr' hy
      (fltsU_lex r _ _ (inv.set hr' hkn) hB' hK)
    have e : (k :: r).length + kb.length = r.length + kb.length + 1 := by simp only [List.length_cons]; omega
    rw [e]; exact h3
theorem detsU_lex (kf : List Nat) :
    ∀ (ks : List Nat) (listed : Array Bool) (a : Act), HeadInv md ops n listed → (∀ k ∈ ks, k ∉ F) →
    orderB md ops n tl (ks ++ (kf ++ kb)) listed = true → wpDets P ops W Lq (opsAt ops kb) (opsAt ops kf) (opsAt ops ks) a →
    wpAnyU P md ops Q tl W n (Ends md ops tl n Lq) false (ks.length + (kf.length + kb.length)) (fun _ => False) (fun _ => True) listed a
  | [], listed, a, inv, _, hB, h => by
    have h1 := fltsU_lex (W := W) hsel hs hc hn kb hnd hkF hap hQ hE kf listed a inv hB h
    simpa using h1
  | k :: r, listed, a, inv, hks, hB, h => by
    simp only [List.cons_append, orderB, Bool.and_eq_true, decide_eq_true_eq] at hB
    obtain ⟨⟨⟨hkn, hr⟩, hf⟩, hB'⟩ := hB
    have hr' : k ∈ Region.ready md ops listed := by simpa using hr
    have hklt : k < ops.size := by omega
    have h0 : ops[k]? = some ops[k] := Array.getElem?_eq_getElem hklt
    have hcons : opsAt ops (k :: r) = ops[k] :: opsAt ops r := by simp [opsAt, h0]
    rw [hcons] at h
    obtain ⟨v, hy, hK⟩ := h
    have h3 := detU_first h0 (Region.noSelect_spec hsel) hs hc hn hkn (hks k (by simp)) (fun U' Ψ' listed' a' hL => seqB_ready hL.1) (r.length + (kf.length + kb.length)) (fun _ => False) (fun _ => True) listed a inv (Region.free_spec h0 hf) hr' hy
      (detsU_lex kf r _ _ (inv.set hr' hkn) (fun i hi => hks i (by simp [hi])) hB' hK)
    have e : (k :: r).length + (kf.length + kb.length) = r.length + (kf.length + kb.length) + 1 := by simp only [List.length_cons]; omega
    rw [e]; exact h3
end
/-- all that is asked of the order, closed -/
def planB (ops : Array Oper) (n : Nat) (ka kf kb : List Nat) : Bool :=
  Region.noSelect ops && decide (n < ops.size) && sinkF .any ops n kf && Region.chainB .any ops n && decide (ka.length + (kf.length + kb.length) = n) && decide kb.Nodup && apartB ops kb && (kb.all fun k => !kf.contains k) && (ka.all fun k => !kf.contains k) && orderB .any ops n (ops.size - n) (ka ++ (kf ++ kb)) (Array.replicate ops.size false)
/-- the operations ka, then kf that look at no world, then the lays kb (n in all), in worlds that W has grown to; the others in their forced order -/
theorem region_plan {id : Nat} {a : Act} {w : World} {l : List Oper} (n : Nat) (ka kf kb : List Nat) (hW : Up W { w with drawn := w.drawn + 1 }) (hm : P.follows .mixedOrders = true) (hB : planB l.toArray n ka kf kb = true)
    (hQ : ∀ c (a : Act) d u w, Q (.panic c) (a.put d u) w → Q (.panic c) a w)
    (h : wpDets P l.toArray W (fun U Ψ a' => ∀ w', Known W w' U Ψ → wpList P l.toArray Q (l.drop n) a' w') (opsAt l.toArray kb) (opsAt l.toArray kf) (opsAt l.toArray ka) a) : (Code.region id l.toArray true).wp P Q a w := by
  simp only [planB, Bool.and_eq_true, decide_eq_true_eq] at hB
  obtain ⟨⟨⟨⟨⟨⟨⟨⟨⟨hsel, hn⟩, hs⟩, hc⟩, hlen⟩, hnd⟩, hap⟩, hbF⟩, haF⟩, hord⟩ := hB
  have hn' : n < l.length := by simpa using hn
  have hdl : (l.drop n).length = l.toArray.size - n := by simp
  have inv0 : HeadInv .any l.toArray n (Array.replicate l.toArray.size false) :=
    ⟨by simp, fun j oj _ hl => (by rw [getD_replicate_false] at hl; cases hl), fun t _ ht => getD_in (by simpa using ht) (getD_replicate_false _ _)⟩
  have hap' : ∀ i ∈ kb, ∀ j ∈ kb, i ≠ j → ∀ x y, l.toArray[i]? = some x → l.toArray[j]? = some y → x.apart l.toArray y = true := by
    intro i hi j hj hne x y hx hy
    have h1 := List.all_eq_true.1 hap i hi
    have h2 := List.all_eq_true.1 h1 j hj
    rw [hx, hy] at h2
    simpa [hne] using h2
  have hbF' : ∀ k ∈ kb, k ∉ kf := fun k hk => by have := List.all_eq_true.1 hbF k hk; simpa using this
  have haF' : ∀ k ∈ ka, k ∉ kf := fun k hk => by have := List.all_eq_true.1 haF k hk; simpa using this
  have hE : ∀ U Ψ listed a, Ends .any l.toArray (l.toArray.size - n) n (fun U Ψ a' => ∀ w', Known W w' U Ψ → wpList P l.toArray Q (l.drop n) a' w') U Ψ listed a → ∀ w, Known W w U Ψ → wpAny P .any l.toArray Q (l.toArray.size - n) listed a w := fun U Ψ listed a' hL w' hw' => by
    have := wpAny_of_seq (md := .any) (Q' := Q) (l.drop n) n listed a' w' (fun j => by simp [List.getElem?_drop]) (by rw [hdl]; exact hL.1) (hL.2 w' hw')
    rwa [hdl] at this
  have H := detsU_lex (md := .any) hsel hs hc hn kb hnd hbF' hap' hQ hE kf ka _ a inv0 haF' hord h
  refine wp_region_any hm ?_
  have := wpAny_of_U hE _ _ _ _ _ (fun _ _ _ _ => trivial) H _ ⟨hW, fun _ h => h.elim, trivial⟩
  rw [hlen, show n + (l.toArray.size - n) = l.toArray.size by omega] at this
  exact this
section
variable {L : (Nat → Prop) → (World → Prop) → Act → Prop} {lays flts : List Oper} {o : Oper} {r : List Oper} {a a0 : Act} {U : Nat → Prop} {Ψ : World → Prop}
theorem wpDets_step (v : Value) (hw : Region.wanted o (yielded ops a.tmps) = true)
    (h : ∀ w, Up W w → Brings P w v ((execOp a.eval o).run P w)) (hr : wpDets P ops W L lays flts r (a.put o.dst v)) : wpDets P ops W L lays flts (o :: r) a := ⟨v, .inl ⟨hw, h⟩, hr⟩
theorem wpDets_skip (hw : Region.wanted o (yielded ops a.tmps) = false)
    (hr : wpDets P ops W L lays flts r (a.put o.dst undef)) : wpDets P ops W L lays flts (o :: r) a := ⟨undef, .inr ⟨hw, rfl⟩, hr⟩
theorem wpDets_nil (h : wpFlts P ops W L lays flts a) : wpDets P ops W L lays flts [] a := h
theorem wpFlts_step (v : Value) (hw : Region.wanted o (yielded ops a.tmps) = true)
    (h : ∀ w, (execOp a.eval o).run P w = .ok (.value v) w) (hr : wpFlts P ops W L lays r (a.put o.dst v)) : wpFlts P ops W L lays (o :: r) a := ⟨v, .inl ⟨hw, h⟩, hr⟩
theorem wpFlts_skip (hw : Region.wanted o (yielded ops a.tmps) = false)
    (hr : wpFlts P ops W L lays r (a.put o.dst undef)) : wpFlts P ops W L lays (o :: r) a := ⟨undef, .inr ⟨hw, rfl⟩, hr⟩
theorem wpFlts_nil (h : wpLays P ops W a L lays (fun _ => False) (fun _ => True) a) : wpFlts P ops W L lays [] a := h
theorem wpLays_nil (h : L U Ψ a) : wpLays P ops W a0 L [] U Ψ a := h
theorem wpLays_step (ob : Obj) (hw : Region.wanted o (yielded ops a0.tmps) = true)
    (h : ∀ w, (execOp a0.eval o).run P w = .ok (.value (.pointer (some ⟨w.heap.size, 0, none⟩))) (w.alloc ob))
    (hr : ∀ g, W.heap.size ≤ g → ¬ U g → wpLays P ops W a0 L r (more U g) (andBlk Ψ g ob) (a.put o.dst (.pointer (some ⟨g, 0, none⟩)))) : wpLays P ops W a0 L (o :: r) U Ψ a := ⟨ob, ⟨hw, h⟩, hr⟩
end
end
end Go.Rg
