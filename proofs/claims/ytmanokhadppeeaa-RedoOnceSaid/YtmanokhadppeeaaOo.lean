/- redo: the plain law of RedoOnce: Undo's records come in the order of what stands open. -/
import Derived.Test.YtmanokhadppeeaaOn
namespace Go.Proofs.Ytmanokhadppeeaa
open Go.RowKit
set_option linter.unusedSimpArgs false
set_option linter.unusedVariables false
structure LM (log : List Co) (L : List Ln) : Prop where
  get : ∀ (k : Nat) c, log[k]? = some c → ∃ x, L[k]? = some x ∧ x.lsn = c.lsn ∧ x.kind = c.kind ∧ x.txn = c.txn ∧ x.prev = c.prev ∧ x.next = c.next
  lsn : ∀ i (h : i < L.length), L[i].lsn = 10 * ((i : Int) + 1)
theorem LM.lsn' {log : List Co} {L : List Ln} (h : LM log L) {k : Nat} {x : Ln} (e : L[k]? = some x) : x.lsn = 10 * ((k : Int) + 1) := by
  obtain ⟨hk, rfl⟩ := List.getElem?_eq_some_iff.1 e
  exact h.lsn k hk
theorem LM.idx {log : List Co} {L : List Ln} (h : LM log L) {k : Nat} {x : Ln} (e : L[k]? = some x) : idxB (fun y : Ln => y.lsn == x.lsn) L 0 = (k : Int) := by
  rcases idx_bd (p := fun y : Ln => y.lsn == x.lsn) L 0 with h1 | ⟨k', hk', h1, h2, _⟩
  · have := (idx_neg (p := fun y : Ln => y.lsn == x.lsn) L 0).1 (by omega) x (List.mem_of_getElem? e)
    simp at this
  · have h3 := h.lsn k' hk'
    have h4 := h.lsn' e
    have h5 : L[k'].lsn = x.lsn := by simpa using h2
    rw [h1]; omega
theorem LM.nxt {log : List Co} {L : List Ln} (h : LM log L) {t p : Int} {S : List Int} (hc : Ch log t p S) (hp : 0 < p) :
    (nxtR L ⟨t, p⟩).1 < p ∧ ∃ S', Ch log t (nxtR L ⟨t, p⟩).1 S' ∧ ((nxtR L ⟨t, p⟩).2 = [] ∧ S' = S ∨ ∃ (k : Nat) (r : Ln), L[k]? = some r ∧ r.txn = t ∧ r.lsn = p ∧ (nxtR L ⟨t, p⟩).2 = [ocC t r] ∧ S = (k : Int) :: S') := by
  have key : ∀ (k : Nat) (c : Co), log[k]? = some c → p = c.lsn → ∃ x, L[k]? = some x ∧ x.kind = c.kind ∧ x.txn = c.txn ∧ x.lsn = c.lsn ∧ nxtR L ⟨t, p⟩ = (if c.kind = 3 then c.next else c.prev, if c.kind = 2 then [ocC t x] else []) := by
    intro k c e e2
    obtain ⟨x, h1, h2, h3, h4, h5, h6⟩ := h.get k c e
    refine ⟨x, h1, h3, h4, h2, ?_⟩
    have hi := h.idx h1
    unfold nxtR
    simp only
    rw [e2, ← h2, hi]
    obtain ⟨hk, rfl⟩ := List.getElem?_eq_some_iff.1 h1
    rw [nxtK_get hk, h3, h5, h6]
  cases hc with
  | nil => omega
  | beg a b c d =>
    obtain ⟨x, h1, h2, h3, h4, h5⟩ := key _ _ a rfl
    rw [h5, b]
    simp only [d, reduceIte, Int.reduceEq]
    exact ⟨hp, [], .nil, .inl ⟨trivial, rfl⟩⟩
  | upd a b c d g =>
    obtain ⟨x, h1, h2, h3, h4, h5⟩ := key _ _ a rfl
    rw [h5, b]
    simp only [reduceIte, Int.reduceEq]
    exact ⟨d, _, g, .inr ⟨_, x, h1, by omega, by omega, rfl, rfl⟩⟩
  | clr a b c d g =>
    obtain ⟨x, h1, h2, h3, h4, h5⟩ := key _ _ a rfl
    rw [h5, b]
    simp only [reduceIte, Int.reduceEq]
    exact ⟨d, _, g, .inl ⟨trivial, rfl⟩⟩
theorem Ch.neg {log : List Co} {t p : Int} {S : List Int} (h : Ch log t p S) (hl : ∀ c ∈ log, 0 < c.lsn) (hp : p ≤ 0) : S = [] := by
  cases S with
  | nil => rfl
  | cons j r =>
    obtain ⟨c, h1, h2, h3, h4, h5⟩ := h.le j (by simp)
    have := hl c (List.mem_of_getElem? h1)
    omega
/-- the loser that is looked at has the greatest next -/
theorem bst_max (all : List Lo) : ∀ (r : List Lo) (i : Nat) (b : Int), all.drop i = r → i ≤ all.length → (i = 0 ∧ b = -1 ∨ 0 ≤ b ∧ b < i ∧ ∀ q, q < i → ∀ y z, all[q]? = some y → all[b.toNat]? = some z → y.next ≤ z.next) → ∀ z, all[(bst all r i b).toNat]? = some z → all ≠ [] → ∀ y ∈ all, y.next ≤ z.next
  | [], i, b, hr, hi, hb, z, hz, hne, y, hy => by
    have h1 := List.drop_eq_nil_iff.1 hr
    unfold bst at hz
    rcases hb with ⟨rfl, rfl⟩ | hb
    · exact absurd (List.eq_nil_of_length_eq_zero (by omega)) hne
    · obtain ⟨q, hq, rfl⟩ := List.getElem_of_mem hy
      exact hb.2.2 q (by omega) _ z (List.getElem?_eq_getElem hq) hz
  | x :: r, i, b, hr, hi, hb, z, hz, hne, y, hy => by
    have hlt : i < all.length := by
      refine Classical.byContradiction fun h => ?_
      rw [List.drop_eq_nil_of_le (by omega)] at hr
      cases hr
    have hr' : all.drop (i + 1) = r := by
      have := congrArg List.tail hr
      simpa using this
    have hxi : all[i]? = some x := by
      have := congrArg (fun l => l[0]?) hr
      simpa using this
    unfold bst at hz
    refine bst_max all r (i + 1) _ hr' (by omega) (.inr ?_) z hz hne y hy
    rcases hb with ⟨rfl, rfl⟩ | hb
    · refine ⟨by simp, by simp, fun q hq y z h1 h2 => ?_⟩
      obtain rfl : q = 0 := by omega
      simp at h2
      rw [h1] at h2
      cases h2
      exact Int.le_refl _
    · rw [if_neg (by omega)]
      have hbl : b.toNat < all.length := by omega
      have hbe := List.getElem?_eq_getElem hbl
      rw [hbe]
      simp only
      split
      · rename_i hc
        refine ⟨by omega, by omega, fun q hq y z h1 h2 => ?_⟩
        rw [Int.toNat_natCast, hxi] at h2
        cases h2
        by_cases e : q = i
        · subst e; rw [hxi] at h1; cases h1; exact Int.le_refl _
        · have := hb.2.2 q (by omega) y _ h1 hbe
          omega
      · rename_i hc
        refine ⟨by omega, by omega, fun q hq y z h1 h2 => ?_⟩
        by_cases e : q = i
        · subst e; rw [hxi] at h1; cases h1
          rw [hbe] at h2; cases h2
          omega
        · exact hb.2.2 q (by omega) y z h1 h2
theorem best_max {lo : List Lo} {j : Nat} (hj : j < lo.length) (e : bestI lo = (j : Int)) : ∀ y ∈ lo, y.next ≤ lo[j].next := by
  refine bst_max lo lo 0 (-1) rfl (Nat.zero_le _) (.inl ⟨rfl, rfl⟩) lo[j] ?_ (List.ne_nil_of_length_pos (by omega))
  show lo[(bestI lo).toNat]? = _
  rw [e, Int.toNat_natCast]
  exact List.getElem?_eq_getElem hj
/-- the record that undoes the update at a place of the log -/
def clrO (L : List Ln) (i : Int) : Oc := match L[i.toNat]? with
  | none => ocE 0
  | some r => ocC r.txn r
theorem split_at {lo : List Lo} {j : Nat} (hj : j < lo.length) : ∃ A B, lo = A ++ lo[j] :: B ∧ lo.eraseIdx j = A ++ B ∧ ∀ v, lo.set j v = A ++ v :: B := by
  refine ⟨lo.take j, lo.drop (j + 1), ?_, ?_, fun v => ?_⟩
  · rw [← List.drop_eq_getElem_cons hj, List.take_append_drop]
  · rw [List.eraseIdx_eq_take_drop_succ]
  · rw [List.set_eq_take_append_cons_drop, if_pos hj]
theorem mem_others {lo A B : List Lo} {x : Lo} (e : lo = A ++ x :: B) (hn : (lo.map Lo.id).Nodup) (y : Lo) : y ∈ A ++ B ↔ y ∈ lo ∧ y.id ≠ x.id := by
  subst e
  rw [List.map_append, List.map_cons, List.nodup_append] at hn
  obtain ⟨h1, h2, h3⟩ := hn
  rw [List.nodup_cons] at h2
  simp only [List.mem_append, List.mem_cons]
  constructor
  · rintro (h | h)
    · exact ⟨.inl h, h3 _ (List.mem_map_of_mem h) _ (by simp)⟩
    · exact ⟨.inr (.inr h), fun e => h2.1 (by rw [← e]; exact List.mem_map_of_mem h)⟩
  · rintro ⟨h | rfl | h, hne⟩
    · exact .inl h
    · exact absurd rfl hne
    · exact .inr h
theorem undoR_open {log : List Co} {L : List Ln} (h : LM log L) (hlog : ∀ c ∈ log, 0 < c.lsn) : ∀ (f : Nat) (lo : List Lo) (out : List Oc) (S : Int → List Int) (O : List Int), loMu lo < f → (∀ x ∈ lo, 0 < x.next ∧ Ch log x.id x.next (S x.id)) → (lo.map Lo.id).Nodup → O.Pairwise (fun a b => b < a) → (∀ i, i ∈ O ↔ ∃ x ∈ lo, i ∈ S x.id) →
    ∃ s, undoR L f lo out = out ++ s ∧ s.filter (fun o => o.kind == 3) = O.map (clrO L) ∧ (s.filter fun o => o.kind == 6).length = lo.length ∧ ∀ o ∈ s, o.kind = 3 ∨ o.kind = 6
  | 0, lo, out, S, O, hf, _, _, _, _ => by omega
  | f + 1, lo, out, S, O, hf, hp, hn, hO, hm => by
    rcases best_bd lo with ⟨rfl, hb⟩ | ⟨hb0, hb1⟩
    · have hO' : O = [] := List.eq_nil_iff_forall_not_mem.2 fun i hi => by
        obtain ⟨x, hx, _⟩ := (hm i).1 hi
        cases hx
      subst hO'
      refine ⟨[], ?_, rfl, rfl, fun o ho => by cases ho⟩
      unfold undoR
      rw [hb, if_pos (by omega), List.append_nil]
    · obtain ⟨j, hj⟩ : ∃ j : Nat, bestI lo = (j : Int) := ⟨(bestI lo).toNat, by omega⟩
      have hjl : j < lo.length := by omega
      have hbm := best_max hjl hj
      have hmu := mu_erase lo j hjl
      obtain ⟨A, B, eA, eE, eS⟩ := split_at hjl
      have hset := mu_set lo j hjl ⟨lo[j].id, (nxtR L lo[j]).1⟩
      rw [undoR_step hjl hj]
      have hxm : lo[j] ∈ lo := List.getElem_mem hjl
      generalize lo[j] = x at *
      obtain ⟨hx0, hxc⟩ := hp x hxm
      have hoth := mem_others eA hn
      obtain ⟨hlt, S', hS', hor⟩ := h.nxt hxc hx0
      have hxe : (⟨x.id, x.next⟩ : Lo) = x := rfl
      rw [hxe] at hlt hS' hor
      obtain ⟨O', P, eO, eP, hO', hm'⟩ : ∃ O' P, O = P ++ O' ∧ (nxtR L x).2 = P.map (clrO L) ∧ O'.Pairwise (fun a b => b < a) ∧ ∀ i, i ∈ O' ↔ (∃ y ∈ lo, y.id ≠ x.id ∧ i ∈ S y.id) ∨ i ∈ S' := by
        rcases hor with ⟨e1, e2⟩ | ⟨k, r, h1, h2, h3, h4, h5⟩
        · subst e2
          refine ⟨O, [], rfl, e1, hO, fun i => ?_⟩
          rw [hm i]
          constructor
          · rintro ⟨y, hy, hi⟩
            by_cases e : y.id = x.id
            · rw [e] at hi; exact .inr hi
            · exact .inl ⟨y, hy, e, hi⟩
          · rintro (⟨y, hy, _, hi⟩ | hi)
            · exact ⟨y, hy, hi⟩
            · exact ⟨x, hxm, hi⟩
        · have hr := h.lsn' h1
          have big : ∀ i ∈ O, i ≤ (k : Int) := fun i hi => by
            obtain ⟨y, hy, hiy⟩ := (hm i).1 hi
            obtain ⟨c, g1, g2, g3, g4, g5⟩ := (hp y hy).2.le i hiy
            obtain ⟨z, z1, z2, _⟩ := h.get _ c g1
            have := h.lsn' z1
            have := hbm y hy
            omega
          have hkO : (k : Int) ∈ O := (hm _).2 ⟨x, hxm, by rw [h5]; simp⟩
          cases O with
          | nil => cases hkO
          | cons a O' =>
            rw [List.pairwise_cons] at hO
            have ea : a = (k : Int) := by
              have h6 := big a (by simp)
              rcases List.mem_cons.1 hkO with e | e
              · exact e.symm
              · have := hO.1 _ e
                omega
            subst ea
            refine ⟨O', [(k : Int)], rfl, ?_, hO.2, fun i => ?_⟩
            · rw [h4]
              simp only [List.map_cons, List.map_nil, clrO, Int.toNat_natCast, h1, h2]
            · have hki : i ∈ O' → i ≠ (k : Int) := fun hi => by have := hO.1 i hi; omega
              have hiO : i ∈ O' ↔ i ∈ (k : Int) :: O' ∧ i ≠ (k : Int) := ⟨fun hi => ⟨List.mem_cons_of_mem _ hi, hki hi⟩, fun hi => by
                rcases List.mem_cons.1 hi.1 with e | e
                · exact absurd e hi.2
                · exact e⟩
              have hkS : (k : Int) ∉ S' := fun hk => by
                obtain ⟨c, g1, g2, g3, g4, g5⟩ := hS'.le _ hk
                obtain ⟨z, z1, z2, _⟩ := h.get _ c g1
                rw [Int.toNat_natCast, h1] at z1
                cases z1
                omega
              have hky : ∀ y ∈ lo, y.id ≠ x.id → (k : Int) ∉ S y.id := fun y hy hne hk => by
                obtain ⟨c, g1, g2, g3, g4, g5⟩ := (hp y hy).2.le _ hk
                obtain ⟨z, z1, z2, z3, z4, _⟩ := h.get _ c g1
                rw [Int.toNat_natCast, h1] at z1
                cases z1
                omega
              rw [hiO, hm i]
              constructor
              · rintro ⟨⟨y, hy, hi⟩, hne⟩
                by_cases e : y.id = x.id
                · rw [e, h5] at hi
                  rcases List.mem_cons.1 hi with e | e
                  · exact absurd e hne
                  · exact .inr e
                · exact .inl ⟨y, hy, e, hi⟩
              · rintro (⟨y, hy, hne, hi⟩ | hi)
                · exact ⟨⟨y, hy, hi⟩, fun e => hky y hy hne (by rw [← e]; exact hi)⟩
                · exact ⟨⟨x, hxm, by rw [h5]; exact List.mem_cons_of_mem _ hi⟩, fun e => hkS (by rw [← e]; exact hi)⟩
      subst eO
      have hPk : ∀ o ∈ (nxtR L x).2, o.kind = 3 := by
        rcases hor with ⟨e1, e2⟩ | ⟨k, r, h1, h2, h3, h4, h5⟩
        · rw [e1]; intro o ho; cases ho
        · rw [h4]; intro o ho
          simp only [List.mem_singleton] at ho
          subst ho; rfl
      have f3 : (nxtR L x).2.filter (fun o => o.kind == 3) = (nxtR L x).2 := List.filter_eq_self.2 fun o ho => by simp [hPk o ho]
      have f6 : (nxtR L x).2.filter (fun o => o.kind == 6) = [] := List.filter_eq_nil_iff.2 fun o ho => by simp [hPk o ho]
      split
      · rename_i hle
        have hS0 := hS'.neg hlog (by omega)
        subst hS0
        rw [eE] at hmu ⊢
        obtain ⟨s, e1, e2, e3, e4⟩ := undoR_open h hlog f (A ++ B) (out ++ (nxtR L x).2 ++ [ocE x.id]) S O' (by omega) (fun y hy => hp y ((hoth y).1 hy).1) (hn.sublist (by
          conv => rhs; rw [eA]
          rw [List.map_append, List.map_append, List.map_cons]
          exact List.Sublist.append (List.Sublist.refl _) (List.sublist_cons_self _ _))) hO' (fun i => by
            rw [hm' i]
            constructor
            · rintro (⟨y, hy, hne, hi⟩ | hi)
              · exact ⟨y, (hoth y).2 ⟨hy, hne⟩, hi⟩
              · cases hi
            · rintro ⟨y, hy, hi⟩
              exact .inl ⟨y, ((hoth y).1 hy).1, ((hoth y).1 hy).2, hi⟩)
        refine ⟨(nxtR L x).2 ++ ocE x.id :: s, by rw [e1]; simp, ?_, ?_, fun o ho => ?_⟩
        · rw [List.filter_append, f3, List.map_append, eP, List.filter_cons_of_neg (by simp [ocE]), e2]
        · rw [List.filter_append, f6, List.filter_cons_of_pos (by simp [ocE])]
          have : lo.length = (A ++ B).length + 1 := by rw [eA]; simp; omega
          simp only [List.nil_append, List.length_cons]
          omega
        · rcases List.mem_append.1 ho with ho | ho
          · exact .inl (hPk o ho)
          · rcases List.mem_cons.1 ho with rfl | ho
            · exact .inr rfl
            · exact e4 o ho
      · rename_i hne
        simp only at hset
        rw [eS] at hset ⊢
        have hmem : ∀ y, y ∈ A ++ (⟨x.id, (nxtR L x).1⟩ : Lo) :: B ↔ y = ⟨x.id, (nxtR L x).1⟩ ∨ (y ∈ lo ∧ y.id ≠ x.id) := fun y => by
          rw [← hoth y]
          simp only [List.mem_append, List.mem_cons]
          constructor
          · rintro (h | h | h)
            · exact .inr (.inl h)
            · exact .inl h
            · exact .inr (.inr h)
          · rintro (h | h | h)
            · exact .inr (.inl h)
            · exact .inl h
            · exact .inr (.inr h)
        obtain ⟨s, e1, e2, e3, e4⟩ := undoR_open h hlog f (A ++ (⟨x.id, (nxtR L x).1⟩ : Lo) :: B) (out ++ (nxtR L x).2) (fun i => if i = x.id then S' else S i) O' (by omega) (fun y hy => by
          rcases (hmem y).1 hy with rfl | ⟨hy, hne'⟩
          · simp only [if_true]
            exact ⟨by omega, hS'⟩
          · simp only [if_neg hne']
            exact hp y hy) (by
          have : (A ++ (⟨x.id, (nxtR L x).1⟩ : Lo) :: B).map Lo.id = lo.map Lo.id := by rw [eA]; simp
          rw [this]; exact hn) hO' (fun i => by
            rw [hm' i]
            constructor
            · rintro (⟨y, hy, hne', hi⟩ | hi)
              · exact ⟨y, (hmem y).2 (.inr ⟨hy, hne'⟩), by simp only [if_neg hne']; exact hi⟩
              · exact ⟨⟨x.id, (nxtR L x).1⟩, (hmem _).2 (.inl rfl), by simp only [if_true]; exact hi⟩
            · rintro ⟨y, hy, hi⟩
              rcases (hmem y).1 hy with rfl | ⟨hy, hne'⟩
              · simp only [if_true] at hi
                exact .inr hi
              · simp only [if_neg hne'] at hi
                exact .inl ⟨y, hy, hne', hi⟩)
        refine ⟨(nxtR L x).2 ++ s, by rw [e1]; simp, ?_, ?_, fun o ho => ?_⟩
        · rw [List.filter_append, f3, List.map_append, eP, e2]
        · rw [List.filter_append, f6, List.nil_append, e3]
          rw [eA]; simp
        · rcases List.mem_append.1 ho with ho | ho
          · exact .inl (hPk o ho)
          · exact e4 o ho
end Go.Proofs.Ytmanokhadppeeaa
