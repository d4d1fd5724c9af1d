/- redo: what Undo calls; what it computes. -/
import Derived.Test.YtmanokhadppeeaaAn
import Derived.ScopeJumps
namespace Go.Proofs.Ytmanokhadppeeaa
open Go.RowKit
set_option linter.unusedSimpArgs false
set_option linter.unusedVariables false
attribute [local go_sem] Rg.leads_value Rg.leads_skip Rg.leads_enter Rg.brings_value Rg.brings_skip Rg.brings_enter
theorem b_info : (Try.prog.info? 5).map (fun i => (i.zero, i.size, i.bytes)) = some (some (.int .u8 0), 1, 1) := by kernel_rfl
theorem bsnil (W : World) (oa : Option Addr) (n c : Nat) : (binOp .eql 30 (.slice oa n c) (.slice none 0 0)).run Try.prog W = .ok (.bool oa.isNone) W := run_eql_slice_nil W 30 5 oa n c Try.underlying30
set_option maxHeartbeats 2000000 in
set_option maxRecDepth 100000 in
theorem bclone (oa : Option Addr) (c : Nat) (l : List Int) (w : World) (hl : l.length ≤ 100000000000) (hp : BAt w oa l) :
    Calls Try.prog 40 #[.slice oa l.length c] w fun e w' => ∃ v, e = .returned v ∧ w'.ownsRow w.heap.size 5 1 v l.length (cellsF bF l) ∧ Gr w w' := by
  obtain ⟨i0, hi, hz0, hz1, hz2⟩ := info_parts b_info
  have NN := fun (W : World) (oa : Option Addr) (n c : Nat) => bsnil W oa n c
  cases oa with
  | none =>
    have h0 : l = [] := by
      rcases hp with h | ⟨b, off, h, _⟩
      · exact h
      · cases h
    subst h0
    simp only [List.length_nil]
    go_enter Try.func40, Try.ntmps40
    go_wp2
    go_ret
    exact ⟨_, rfl, World.ownsRow_nil _ _ _ _, Gr.refl _⟩
  | some ad =>
    have hc : ∀ W, Gr w W → ∀ j u, (cellsF bF l)[j]? = some u → W.cell? (ad.add j) = some u := by
      intro W hW
      rcases hp.keep hW with h | ⟨b, off, h, hb, hr⟩
      · subst h; intro j u hu; simp [cellsF] at hu
      · cases h; exact hr.cells bE
    have Hc := hid hc
    clear hc hp
    go_enter Try.func40, Try.ntmps40
    go_wp2_with (at_builtin; refine wpList_append_own _ rfl _ _ 30 rfl w.heap.size 5 i0 (.int .u8 0) 1 1 Try.underlying30 hi hz0 hz1 hz2 rfl (by decide) _ _ _ rfl (World.ownsRow_lit w #[] 0 (Nat.le_refl _) (by decide) rfl) ad l.length c (cellsF bF l) rfl (bE.cells_len l) ?c1 ?c2 ?c3 ?c4 ?c5 ?_)
    case c1 => exact Hc.out _ ((Gr.refl w).alloc _)
    case c2 => exact bE.cells_one l
    case c3 => unfold maxLen; omega
    case c4 => omega
    case c5 => simp
    intro v' w2 hown2 hg2 _
    have hown2 : w2.ownsRow w.heap.size 5 1 v' l.length (cellsF bF l) := by simpa using hown2
    have hg3 : Gr w w2 := ((Gr.refl w).alloc _).grown hg2 (fun b hb => by simp [Value.ownBlock] at hb; omega)
    have H := hid hown2
    clear hown2 hg2
    go_wp2
    go_ret
    exact ⟨_, rfl, H.out, hg3⟩
theorem bclip (oa : Option Addr) (n c : Nat) (w : World) (hn : n ≤ c) : Calls Try.prog 39 #[.slice oa n c] w fun e w' => e = .returned (.slice oa n n) ∧ w' = w := by
  go_enter Try.func39, Try.ntmps39
  go_wp2
  go_ret
  exact ⟨rfl, rfl⟩
theorem rclip (oa : Option Addr) (n c : Nat) (w : World) (hn : n ≤ c) : Calls Try.prog 36 #[.slice oa n c] w fun e w' => e = .returned (.slice oa n n) ∧ w' = w := by
  go_enter Try.func36, Try.ntmps36
  go_wp2
  go_ret
  exact ⟨rfl, rfl⟩
/-- the closure that asks for a place in the log -/
theorem lis_any (x : Ln) (n : Int) (gp g o : Nat) (w : World) (h1 : w.cell? ⟨gp, 0, none⟩ = some (.pointer (some ⟨g, o, none⟩))) (h2 : w.cell? ⟨g, o + 1, none⟩ = some (.int .i64 n)) :
    Calls Try.prog 38 #[.agg #[.int .i64 x.lsn, .int .i64 x.kind, .int .i64 x.txn, .int .i64 x.prev, .int .i64 x.next, .int .i64 x.page, .int .i64 x.off, .slice x.ob x.bs.length x.cb, .slice x.oa x.es.length x.ca, .slice x.ot x.ts.length x.ct, .slice x.od x.ds.length x.cd, .int .i64 x.cnt], .pointer (some ⟨gp, 0, none⟩)] w fun e w' => e = .returned (.bool (x.lsn == n)) ∧ Gr w w' := by
  have l1 := lt_of_cell h1
  have l2 := lt_of_cell h2
  have l3 : gp < w.heap.size + 1 := by omega
  have l4 : g < w.heap.size + 1 := by omega
  go_enter Try.func38, Try.ntmps38
  go_wp2_with fail
  go_quiet (fail)
  go_wp2
  go_ret
  exact ⟨rfl, ((Gr.refl _).alloc _).drewN _⟩
set_option maxHeartbeats 2000000 in
set_option maxRecDepth 100000 in
theorem lindex (oa : Option Addr) (c : Nat) (l : List Ln) (n : Int) (gp g o : Nat) (w : World) (hl : l.length ≤ 9223372036854775807) (hp : LAt w oa l) (h1 : w.cell? ⟨gp, 0, none⟩ = some (.pointer (some ⟨g, o, none⟩))) (h2 : w.cell? ⟨g, o + 1, none⟩ = some (.int .i64 n)) :
    Calls Try.prog 37 #[.slice oa l.length c, .func (.func 38) #[] #[.pointer (some ⟨gp, 0, none⟩)]] w fun e w' => e = .returned (.int .i64 (idxB (fun x => x.lsn == n) l 0)) ∧ Gr w w' := by
  obtain ⟨RR, hRR⟩ : ∃ R, R = idxB (fun x : Ln => x.lsn == n) l 0 := ⟨_, rfl⟩
  rw [← hRR]
  have HR : Hid (RR = idxB (fun x : Ln => x.lsn == n) (l.drop 0) 0) := hid hRR
  have HP := hid hp
  clear hRR hp
  go_enter Try.func37, Try.ntmps37
  go_wp2_with fail
  go_loopw [8] (fun i wr => ∃ k : Nat, i = .int .i64 k ∧ k ≤ l.length ∧ Gr w wr ∧ Hid (RR = idxB (fun x : Ln => x.lsn == n) (l.drop k) k)) (fun i _ => l.length - (intOf i).toNat)
  case atStart => exact ⟨0, rfl, Nat.zero_le _, Gr.refl _, HR⟩
  case round =>
    obtain ⟨k, rfl, hk, hg, H⟩ := hrel
    by_cases hlt : k < l.length
    · obtain ⟨b, off, rfl, c0, c1, c2, c3, c4, c5, c6, c7, c8, c9, c10, c11⟩ := n_get (HP.out.keep hg) k hlt
      have HH := H.out
      rw [idx_drop hlt] at HH
      have hbb := lt_of_cell c0
      have hkn : (k : Int) ≤ 9223372036854775807 := by omega
      have gk : decide ((l.length : Int) ≤ (k : Int)) = false := by simp; omega
      obtain ⟨tb, htb⟩ : ∃ t, (l[k].lsn == n) = t := ⟨_, rfl⟩
      have I := fun W (hW : Gr w W) => lis_any l[k] n gp g o W (hW.keep h1) (hW.keep h2)
      simp only [htb] at HH I
      have HI := hid I
      clear I H htb
      generalize l[k] = x at *
      cases tb
      · have HH' : Hid (RR = idxB (fun x : Ln => x.lsn == n) (l.drop (k + 1)) (k + 1)) := hid (by simpa using HH)
        clear HH
        go_wp2_with fail
        refine (HI.out _ hg).mono ?_
        rintro e w1 ⟨rfl, h1⟩
        go_wp2
        exact ⟨⟨k + 1, by go_num, by omega, hg.trans h1, HH'⟩, by simp [intOf]; omega⟩
      · have HH' : Hid (RR = (k : Int)) := hid (by simpa using HH)
        clear HH
        go_wp2_with fail
        refine (HI.out _ hg).mono ?_
        rintro e w1 ⟨rfl, h1⟩
        go_wp2
        go_ret
        exact ⟨by rw [HH'.out]; rfl, hg.trans h1⟩
    · obtain rfl : k = l.length := by omega
      have hn : RR = -1 := by rw [H.out, List.drop_length]; rfl
      subst hn
      go_wp2
      go_ret
      exact ⟨rfl, hg⟩
theorem least_of {p : Nat → Prop} : ∀ n, p n → ∃ m, p m ∧ ∀ k, k < m → ¬ p k := by
  intro n
  induction n using Nat.strongRecOn with
  | _ n ih =>
    intro h
    by_cases hk : ∃ k, k < n ∧ p k
    · obtain ⟨k, hk, hp⟩ := hk
      exact ih k hk hp
    · exact ⟨n, h, fun k hk' hp => hk ⟨k, hk', hp⟩⟩
/-- a scope in which the run jumps back to one label; what holds at the label bears a number that each pass lowers -/
theorem scope_ghost {P : Program} {a : Act} {w : World} {Q : Exit → Act → World → Prop} {c rest : Code} (l : Nat) (J : Nat → Act → World → Prop) (hf : findLabel c l = some rest)
    (first : c.wp P (Exit.jump l (fun a' w' => ∃ n, J n a' w') Q) a w)
    (pass : ∀ n a w, J n a w → rest.wp P (Exit.jump l (fun a' w' => ∃ m, m < n ∧ J m a' w') Q) a w) : (Code.scope c).wp P Q a w := by
  classical
  have hl : ∀ a' w', ∃ m : Nat, (∃ n, J n a' w') → J m a' w' ∧ ∀ k, k < m → ¬ J k a' w' := fun a' w' => by
    by_cases h : ∃ n, J n a' w'
    · obtain ⟨n, hn⟩ := h
      obtain ⟨m, h1, h2⟩ := least_of (p := fun n => J n a' w') n hn
      exact ⟨m, fun _ => ⟨h1, h2⟩⟩
    · exact ⟨0, fun h' => absurd h' h⟩
  let μ : Act → World → Nat := fun a' w' => Classical.choose (hl a' w')
  have hμ : ∀ a' w', (∃ n, J n a' w') → J (μ a' w') a' w' ∧ ∀ k, k < μ a' w' → ¬ J k a' w' := fun a' w' => Classical.choose_spec (hl a' w')
  refine wp_scope_jumps l (fun a' w' => ∃ n, J n a' w') μ hf first ?_
  intro a w hJ
  refine Code.wp_mono ?_ (pass (μ a w) a w (hμ a w hJ).1)
  intro e a' w' h
  cases e with
  | goto l' =>
    obtain ⟨h1, m, hm, hJm⟩ := h
    refine ⟨h1, ⟨m, hJm⟩, ?_⟩
    refine Nat.lt_of_le_of_lt (Nat.le_of_not_lt fun hlt => ?_) hm
    exact (hμ a' w' ⟨m, hJm⟩).2 m hlt hJm
  | _ => exact h
/-! ### what Undo computes -/
/-- what a record that Undo writes tells -/
structure Oc where
  kind : Int
  txn : Int
  next : Int
  page : Int
  off : Int
  es : List Int
def ocE (id : Int) : Oc := ⟨6, id, 0, 0, 0, []⟩
def ocC (id : Int) (r : Ln) : Oc := ⟨3, id, r.prev, r.page, r.off, r.bs⟩
def zLn (o : Oc) (oa : Option Addr) (ca : Nat) : Ln := { lsn := 0, kind := o.kind, txn := o.txn, prev := 0, next := o.next, page := o.page, off := o.off, ob := none, bs := [], cb := 0, oa := oa, es := o.es, ca := ca, ot := none, ts := [], ct := 0, od := none, ds := [], cd := 0, cnt := 0 }
/-- the records so far, in memory of their own -/
structure OutOk (w : World) (base : Nat) (v : Value) (os : List Oc) : Prop where
  ex : ∃ zs : List (Oc × Option Addr × Nat), zs.map Prod.fst = os ∧ w.ownsRow base 32 11 v (zs.map fun z => zLn z.1 z.2.1 z.2.2).length (cellsF rF (zs.map fun z => zLn z.1 z.2.1 z.2.2)) ∧ ∀ z ∈ zs, BAt w z.2.1 z.1.es ∧ ∀ b o q, z.2.1 = some ⟨b, o, q⟩ → z.1.es ≠ [] → Ty 5 w b
/-- the loser that is looked at next -/
def bst (all : List Lo) : List Lo → Nat → Int → Int
  | [], _, b => b
  | x :: r, i, b => bst all r (i + 1) (if b < 0 then (i : Int) else match all[b.toNat]? with
    | none => b
    | some y => if y.next < x.next ∨ (x.next = y.next ∧ x.id < y.id) then (i : Int) else b)
def bestI (l : List Lo) : Int := bst l l 0 (-1)
theorem bst_bd (all : List Lo) : ∀ (r : List Lo) (i : Nat) (b : Int), all.drop i = r → i ≤ all.length → (i = 0 ∧ b = -1 ∨ 0 ≤ b ∧ b < i) → (all = [] ∧ bst all r i b = -1) ∨ (0 ≤ bst all r i b ∧ bst all r i b < all.length)
  | [], i, b, hr, hi, hb => by
    have h1 := List.drop_eq_nil_iff.1 hr
    unfold bst
    rcases hb with ⟨rfl, rfl⟩ | hb
    · exact .inl ⟨List.eq_nil_of_length_eq_zero (by omega), rfl⟩
    · exact .inr ⟨hb.1, by omega⟩
  | x :: r, i, b, hr, hi, hb => by
    have hlt : i < all.length := by
      refine Classical.byContradiction fun h => ?_
      rw [List.drop_eq_nil_of_le (by omega)] at hr
      cases hr
    have hr' : all.drop (i + 1) = r := by
      have := congrArg List.tail hr
      simpa using this
    unfold bst
    refine bst_bd all r (i + 1) _ hr' (by omega) (.inr ?_)
    rcases hb with ⟨rfl, rfl⟩ | hb
    · simp
    · rw [if_neg (by omega)]
      split
      · omega
      · split <;> omega
theorem best_bd (l : List Lo) : (l = [] ∧ bestI l = -1) ∨ (0 ≤ bestI l ∧ bestI l < l.length) := bst_bd l l 0 (-1) rfl (Nat.zero_le _) (.inl ⟨rfl, rfl⟩)
theorem bst_step {all : List Lo} {i : Nat} {b : Int} (h : i < all.length) : bst all (all.drop i) i b = bst all (all.drop (i + 1)) (i + 1) (if b < 0 then (i : Int) else match all[b.toNat]? with
    | none => b
    | some y => if y.next < all[i].next ∨ (all[i].next = y.next ∧ all[i].id < y.id) then (i : Int) else b) := by
  conv => lhs; rw [List.drop_eq_getElem_cons h]
  rfl
/-- what becomes of a loser -/
def nxtK (l : List Ln) (x : Lo) (k : Int) : Int × List Oc :=
  if k < 0 then (0, []) else match l[k.toNat]? with
    | none => (0, [])
    | some r => (if r.kind = 3 then r.next else r.prev, if r.kind = 2 then [ocC x.id r] else [])
def nxtR (l : List Ln) (x : Lo) : Int × List Oc := nxtK l x (idxB (fun y : Ln => y.lsn == x.next) l 0)
theorem nxtK_neg {l : List Ln} {x : Lo} {k : Int} (h : k < 0) : nxtK l x k = (0, []) := by unfold nxtK; rw [if_pos h]
theorem nxtK_get {l : List Ln} {x : Lo} {k : Nat} (h : k < l.length) : nxtK l x (k : Int) = (if l[k].kind = 3 then l[k].next else l[k].prev, if l[k].kind = 2 then [ocC x.id l[k]] else []) := by
  unfold nxtK; rw [if_neg (by omega), Int.toNat_natCast, List.getElem?_eq_getElem h]
def undoR (l : List Ln) : Nat → List Lo → List Oc → List Oc
  | 0, _, out => out
  | f + 1, lo, out => if bestI lo < 0 then out else match lo[(bestI lo).toNat]? with
    | none => out
    | some x => if (nxtR l x).1 ≤ 0 ∨ x.next ≤ (nxtR l x).1 then undoR l f (lo.eraseIdx (bestI lo).toNat) (out ++ (nxtR l x).2 ++ [ocE x.id]) else undoR l f (lo.set (bestI lo).toNat ⟨x.id, (nxtR l x).1⟩) (out ++ (nxtR l x).2)
def loMu (lo : List Lo) : Nat := (lo.map fun x => x.next.toNat + 1).sum
/-- who is undone; who has but to end -/
def loserR : List Tx → List Lo
  | [] => []
  | t :: r => if t.st = 2 then loserR r else if t.last ≤ 0 then loserR r else ⟨t.id, t.last⟩ :: loserR r
def endR : List Tx → List Oc
  | [] => []
  | t :: r => if t.st = 2 then endR r else if t.last ≤ 0 then ocE t.id :: endR r else endR r
def undoAll (l : List Ln) (ts : List Tx) : List Oc := undoR l (loMu (loserR ts) + 1) (loserR ts) (endR ts)
theorem mu_set : ∀ (lo : List Lo) (k : Nat) (hk : k < lo.length) (x : Lo), loMu (lo.set k x) + (lo[k].next.toNat + 1) = loMu lo + (x.next.toNat + 1)
  | [], k, hk, _ => by simp at hk
  | y :: r, 0, _, x => by simp [loMu]; omega
  | y :: r, k + 1, hk, x => by
    have := mu_set r k (by simpa using hk) x
    simp only [loMu, List.set_cons_succ, List.map_cons, List.sum_cons, List.getElem_cons_succ] at *
    omega
theorem mu_erase : ∀ (lo : List Lo) (k : Nat) (hk : k < lo.length), loMu (lo.eraseIdx k) + (lo[k].next.toNat + 1) = loMu lo
  | [], k, hk => by simp at hk
  | y :: r, 0, _ => by simp [loMu]; omega
  | y :: r, k + 1, hk => by
    have := mu_erase r k (by simpa using hk)
    simp only [loMu, List.eraseIdx_cons_succ, List.map_cons, List.sum_cons, List.getElem_cons_succ] at *
    omega
end Go.Proofs.Ytmanokhadppeeaa
