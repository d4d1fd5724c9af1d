/- redo: what the analysis keeps of each transaction; what undoing writes; the plain law of RedoTwice. -/
import Derived.Test.YtmanokhadppeeaaCn
import Derived.Test.YtmanokhadppeeaaSp
import Derived.Test.YtmanokhadppeeaaRq
namespace Go.Proofs.Ytmanokhadppeeaa
open Go.RowKit
set_option linter.unusedSimpArgs false
set_option linter.unusedVariables false
/-- what the table tells of a transaction -/
def look (ts : List Tx) (t : Int) : Option (Int × Int) := (ts.find? fun e => e.id == t).map fun e => (e.last, e.st)
def entS (e : Option (Int × Int)) (x : Ln) : Option (Int × Int) :=
  if x.kind = 4 then some (x.lsn, 2) else if x.kind = 5 then some (x.lsn, 3) else if x.kind = 6 then none else some (x.lsn, (e.map Prod.snd).getD 1)
def entF (t : Int) (e : Option (Int × Int)) (x : Ln) : Option (Int × Int) := if x.txn = t then entS e x else e
def entL (L : List Ln) (t : Int) : Option (Int × Int) := L.foldl (entF t) none
theorem find_none {ts : List Tx} {t : Int} (h : ∀ e ∈ ts, (e.id == t) = false) : ts.find? (fun e => e.id == t) = none := by
  rw [List.find?_eq_none]
  intro e he
  rw [h e he]; simp
theorem look_split {A B : List Tx} {e : Tx} {t : Int} (hA : ∀ a ∈ A, (a.id == t) = false) (he : e.id = t) : look (A ++ e :: B) t = some (e.last, e.st) := by
  unfold look
  rw [List.find?_append, find_none hA]
  simp [he]
theorem look_other {A B : List Tx} {e : Tx} {t : Int} (he : e.id ≠ t) : look (A ++ e :: B) t = look (A ++ B) t := by
  unfold look
  rw [List.find?_append, List.find?_append, List.find?_cons]
  have : (e.id == t) = false := by simpa using he
  rw [this]
theorem look_gone {A B : List Tx} {t : Int} (hA : ∀ a ∈ A, (a.id == t) = false) (hB : ∀ a ∈ B, (a.id == t) = false) : look (A ++ B) t = none := by
  unfold look
  rw [find_none]
  · rfl
  · intro e he
    rcases List.mem_append.1 he with h | h
    · exact hA e h
    · exact hB e h
theorem putT_look (x : Ln) (ts : List Tx) (hn : (ts.map Tx.id).Nodup) (t : Int) : look (putT x ts) t = if t = x.txn then entS (look ts x.txn) x else look ts t := by
  have key : ∀ (A B : List Tx) (e : Tx) (old : Option (Int × Int)), e.id = x.txn → (∀ a ∈ A, (a.id == x.txn) = false) → (∀ a ∈ B, (a.id == x.txn) = false) → e.st = (old.map Prod.snd).getD 1 → (∀ t, t ≠ x.txn → look (A ++ B) t = look ts t) → look ts x.txn = old →
      look (if x.kind = 4 then A ++ ⟨e.id, x.lsn, 2⟩ :: B else if x.kind = 5 then A ++ ⟨e.id, x.lsn, 3⟩ :: B else if x.kind = 6 then A ++ B else A ++ ⟨e.id, x.lsn, e.st⟩ :: B) t = if t = x.txn then entS (look ts x.txn) x else look ts t := by
    intro A B e old he hA hB hst ho hol
    by_cases ht : t = x.txn
    · subst ht
      rw [if_pos rfl]
      unfold entS
      split
      · exact look_split (e := ⟨e.id, x.lsn, 2⟩) hA he
      · split
        · exact look_split (e := ⟨e.id, x.lsn, 3⟩) hA he
        · split
          · rw [look_gone hA hB]
          · rw [look_split (e := ⟨e.id, x.lsn, e.st⟩) hA he, hol]
            simp only [hst]
    · rw [if_neg ht]
      have hne : e.id ≠ t := fun h => ht (by rw [← h, he])
      split
      · rw [look_other (e := ⟨e.id, x.lsn, 2⟩) hne, ho t ht]
      · split
        · rw [look_other (e := ⟨e.id, x.lsn, 3⟩) hne, ho t ht]
        · split
          · exact ho t ht
          · rw [look_other (e := ⟨e.id, x.lsn, e.st⟩) hne, ho t ht]
  unfold putT
  rcases idx_bd (p := fun e : Tx => e.id == x.txn) ts 0 with h | ⟨k, hk, e1, e2, e3⟩
  · have hneg := (idx_neg (p := fun e : Tx => e.id == x.txn) ts 0).1 (by omega)
    rw [h]
    simp only [show ((-1 : Int) < 0) by omega, if_true]
    rw [List.getElem?_append_right (Nat.le_refl _), Nat.sub_self]
    simp only [List.getElem?_cons_zero]
    have hs : ∀ u : Tx, (ts ++ [(⟨x.txn, 0, 1⟩ : Tx)]).set ts.length u = ts ++ u :: [] := fun u => by
      rw [List.set_append_right _ _ (Nat.le_refl _), Nat.sub_self]; rfl
    have hr : (ts ++ [(⟨x.txn, 0, 1⟩ : Tx)]).eraseIdx ts.length = ts ++ [] := by
      rw [List.eraseIdx_append_of_length_le (Nat.le_refl _), Nat.sub_self]; rfl
    rw [hs, hs, hs, hr]
    have hln : look ts x.txn = none := by unfold look; rw [find_none hneg]; rfl
    exact key ts [] ⟨x.txn, 0, 1⟩ none rfl hneg (by simp) rfl (fun t _ => by rw [List.append_nil]) hln
  · have ek : idxB (fun e : Tx => e.id == x.txn) ts 0 = (k : Int) := by rw [e1]; congr 1; omega
    rw [ek]
    simp only [show ¬ ((k : Int) < 0) by omega, if_false, Int.toNat_natCast]
    rw [List.getElem?_eq_getElem hk]
    simp only
    have hid : ts[k].id = x.txn := by simpa using e2
    have hA : ∀ a ∈ ts.take k, (a.id == x.txn) = false := fun a ha => by
      obtain ⟨j, hj, rfl⟩ := List.getElem_of_mem ha
      rw [List.length_take] at hj
      rw [List.getElem_take]
      exact e3 j (by omega)
    have hsp : ts = ts.take k ++ ts[k] :: ts.drop (k + 1) := by
      rw [← List.drop_eq_getElem_cons hk, List.take_append_drop]
    have hB : ∀ a ∈ ts.drop (k + 1), (a.id == x.txn) = false := fun a ha => by
      rw [beq_eq_false_iff_ne]
      intro e
      rw [hsp, List.map_append, List.map_cons, List.nodup_append] at hn
      have := (List.nodup_cons.1 hn.2.1).1
      exact this (List.mem_map.2 ⟨a, ha, by rw [e, hid]⟩)
    have hs : ∀ u : Tx, ts.set k u = ts.take k ++ u :: ts.drop (k + 1) := fun u => List.set_eq_take_append_cons_drop.trans (by rw [if_pos hk])
    rw [hs, hs, hs, List.eraseIdx_eq_take_drop_succ]
    have hlo : look ts x.txn = some (ts[k].last, ts[k].st) := by
      conv => lhs; rw [hsp]
      exact look_split hA hid
    refine key _ _ ts[k] _ hid hA hB rfl (fun t ht => ?_) hlo
    conv => rhs; rw [hsp]
    rw [look_other (fun h => ht (by rw [← h, hid]))]
/-- what every line here is like -/
structure GL (x : Ln) : Prop where
  k7 : ¬ x.kind = 7
  txn : 1 ≤ x.txn ∧ x.txn ≤ 4
  page : 0 ≤ x.page ∧ x.page ≤ 3
structure TI (L : List Ln) (a : An) : Prop where
  idn : (a.ts.map Tx.id).Nodup
  idr : ∀ i ∈ a.ts.map Tx.id, 1 ≤ i ∧ i ≤ 4
  lk : ∀ t, look a.ts t = entL L t
  pgn : (a.ds.map Dy.page).Nodup
  pgr : ∀ p ∈ a.ds.map Dy.page, 0 ≤ p ∧ p ≤ 3
theorem TI.step {L : List Ln} {a : An} (h : TI L a) {x : Ln} (g : GL x) : TI (L ++ [x]) (stepA a x) := by
  have ht : ¬ x.txn ≤ 0 := by have := g.txn; omega
  have hi := putT_ids x a.ts
  unfold stepA
  rw [if_neg g.k7, if_neg ht]
  refine ⟨?_, ?_, fun t => ?_, ?_, ?_⟩
  · refine hi.nodup ?_
    split
    · rename_i hn
      have hn := (idx_neg (p := fun t : Tx => t.id == x.txn) a.ts 0).1 hn
      rw [List.nodup_append]
      refine ⟨h.idn, by simp, fun i hi j hj => ?_⟩
      simp only [List.mem_singleton] at hj
      subst hj
      obtain ⟨t, ht, rfl⟩ := List.mem_map.1 hi
      have := hn t ht
      simpa using this
    · exact h.idn
  · intro i hm
    have := hi.subset hm
    split at this
    · rcases List.mem_append.1 this with h1 | h1
      · exact h.idr i h1
      · simp only [List.mem_singleton] at h1
        subst h1; exact g.txn
    · exact h.idr i this
  · rw [putT_look x a.ts h.idn t]
    unfold entL
    rw [List.foldl_append]
    simp only [List.foldl_cons, List.foldl_nil]
    have e1 : ∀ t, List.foldl (entF t) none L = look a.ts t := fun t => (h.lk t).symm
    rw [e1]
    unfold entF
    by_cases e : t = x.txn
    · subst e; simp
    · rw [if_neg e, if_neg (fun h => e h.symm)]
  · simp only
    split
    · rename_i hh
      have hn := (idx_neg (p := fun d : Dy => d.page == x.page) a.ds 0).1 hh.2
      rw [List.map_append, List.nodup_append]
      refine ⟨h.pgn, by simp, fun i hi j hj => ?_⟩
      simp only [List.map_cons, List.map_nil, List.mem_singleton] at hj
      subst hj
      obtain ⟨d, hd, rfl⟩ := List.mem_map.1 hi
      have := hn d hd
      simpa using this
    · exact h.pgn
  · simp only
    intro p hp
    split at hp
    · rw [List.map_append] at hp
      rcases List.mem_append.1 hp with hp | hp
      · exact h.pgr p hp
      · simp only [List.map_cons, List.map_nil, List.mem_singleton] at hp
        subst hp; exact g.page
    · exact h.pgr p hp
theorem TI.fold : ∀ (R P : List Ln) (a : An), TI P a → (∀ x ∈ R, GL x) → TI (P ++ R) (R.foldl stepA a)
  | [], P, a, h, _ => by simpa using h
  | x :: r, P, a, h, hR => by
    have := TI.fold r (P ++ [x]) (stepA a x) (h.step (hR x (by simp))) (fun y hy => hR y (by simp [hy]))
    simpa using this
theorem TI.all {L : List Ln} (h : ∀ x ∈ L, GL x) : TI L (anR L) := by
  have := TI.fold L [] an0 ⟨by simp [an0], by simp [an0], fun t => rfl, by simp [an0], by simp [an0]⟩ h
  simpa [anR] using this
theorem TI.tsl {L : List Ln} {a : An} (h : TI L a) : a.ts.length ≤ 4 := by
  have := len_le4 h.idn h.idr
  simpa using this
theorem TI.dsl {L : List Ln} {a : An} (h : TI L a) : a.ds.length ≤ 5 := by
  have hc := List.nodup_iff_count.1 h.pgn
  have := len5 (a.ds.map Dy.page) (fun x hx => .inr (h.pgr x hx))
  have h1 := hc 9
  have h2 := hc 0
  have h3 := hc 1
  have h4 := hc 2
  have h5 := hc 3
  simp only [List.length_map] at this
  omega
theorem look_mem {ts : List Tx} (hn : (ts.map Tx.id).Nodup) {e : Tx} (he : e ∈ ts) : look ts e.id = some (e.last, e.st) := by
  obtain ⟨A, B, rfl⟩ := List.append_of_mem he
  refine look_split (fun a ha => ?_) rfl
  rw [beq_eq_false_iff_ne]
  intro h
  rw [List.map_append, List.map_cons, List.nodup_append] at hn
  exact hn.2.2 a.id (List.mem_map_of_mem ha) e.id (by simp) h
/-- pages only come to be dirty -/
theorem ds_grow : ∀ (R : List Ln) (a : An), (∀ x ∈ R, GL x) → a.ds.length ≤ (R.foldl stepA a).ds.length
  | [], a, _ => Nat.le_refl _
  | x :: r, a, h => by
    refine Nat.le_trans ?_ (ds_grow r (stepA a x) (fun y hy => h y (by simp [hy])))
    unfold stepA
    rw [if_neg (h x (by simp)).k7]
    simp only
    split
    · rw [List.length_append]; omega
    · exact Nat.le_refl _
/-! ### what undoing writes -/
/-- CLRs of those that are left, and for each an end, behind which it writes no more -/
inductive Sq : List Int → List Oc → Prop
  | nil : Sq [] []
  | clr {ids : List Int} {o : Oc} {s : List Oc} (hk : o.kind = 3) (hm : o.txn ∈ ids) (hp : 0 ≤ o.page ∧ o.page ≤ 3) (h : Sq ids s) : Sq ids (o :: s)
  | fin {A B : List Int} {o : Oc} {s : List Oc} (hk : o.kind = 6) (hp : o.page = 0) (h : Sq (A ++ B) s) : Sq (A ++ o.txn :: B) (o :: s)
theorem map_erase {α β : Type} (f : α → β) (l : List α) (j : Nat) (h : j < l.length) : l.map f = (l.eraseIdx j |>.map f |>.take j) ++ f l[j] :: ((l.eraseIdx j).map f).drop j := by
  have e1 : l = l.take j ++ l[j] :: l.drop (j + 1) := by rw [← List.drop_eq_getElem_cons h, List.take_append_drop]
  have e2 : (l.eraseIdx j).map f = (l.take j).map f ++ (l.drop (j + 1)).map f := by rw [List.eraseIdx_eq_take_drop_succ, List.map_append]
  rw [e2]
  have hl : ((l.take j).map f).length = j := by rw [List.length_map, List.length_take]; omega
  rw [List.take_append_of_le_length (by omega), List.drop_append_of_le_length (by omega)]
  rw [List.take_of_length_le (by omega), List.drop_eq_nil_of_le (by omega), List.nil_append]
  conv => lhs; rw [e1]
  rw [List.map_append, List.map_cons]
theorem undoR_sq {l : List Ln} (hl : ∀ x ∈ l, 0 ≤ x.page ∧ x.page ≤ 3) : ∀ (f : Nat) (lo : List Lo) (out : List Oc), loMu lo < f → (∀ x ∈ lo, 0 < x.next) → ∃ s, undoR l f lo out = out ++ s ∧ Sq (lo.map Lo.id) s ∧ s.length ≤ 2 * loMu lo
  | 0, lo, out, h, _ => by omega
  | f + 1, lo, out, h, hp => by
    rcases best_bd lo with ⟨rfl, hb⟩ | ⟨hb0, hb1⟩
    · refine ⟨[], ?_, .nil, Nat.zero_le _⟩
      unfold undoR
      rw [hb, if_pos (by omega), List.append_nil]
    · obtain ⟨j, hj⟩ : ∃ j : Nat, bestI lo = (j : Int) := ⟨(bestI lo).toNat, by omega⟩
      have hjl : j < lo.length := by omega
      have hx := hp _ (List.getElem_mem hjl)
      have hmu := mu_erase lo j hjl
      have hnx : (nxtR l lo[j]).2 = [] ∨ ∃ r ∈ l, (nxtR l lo[j]).2 = [ocC lo[j].id r] := by
        unfold nxtR nxtK
        split
        · exact .inl rfl
        · split
          · exact .inl rfl
          · rename_i r hr
            simp only
            split
            · exact .inr ⟨r, List.mem_of_getElem? hr, rfl⟩
            · exact .inl rfl
      rw [undoR_step hjl hj]
      have clrs : ∀ {ids : List Int} {s : List Oc}, lo[j].id ∈ ids → Sq ids s → Sq ids ((nxtR l lo[j]).2 ++ s) ∧ ((nxtR l lo[j]).2 ++ s).length ≤ s.length + 1 := by
        intro ids s hm hs
        rcases hnx with e | ⟨r, hr, e⟩
        · rw [e]; exact ⟨hs, by simp⟩
        · rw [e]; exact ⟨.clr rfl hm (hl r hr) hs, by simp⟩
      split
      · obtain ⟨s, e1, e2, e3⟩ := undoR_sq hl f (lo.eraseIdx j) (out ++ (nxtR l lo[j]).2 ++ [ocE lo[j].id]) (by omega) (fun y hy => hp y (List.mem_of_mem_eraseIdx hy))
        have hfin : Sq (lo.map Lo.id) (ocE lo[j].id :: s) := by
          rw [map_erase Lo.id lo j hjl]
          refine Sq.fin (o := ocE lo[j].id) rfl rfl ?_
          rw [List.take_append_drop]
          exact e2
        obtain ⟨c1, c2⟩ := clrs (List.mem_map_of_mem (List.getElem_mem hjl)) hfin
        refine ⟨(nxtR l lo[j]).2 ++ (ocE lo[j].id :: s), by rw [e1]; simp, c1, ?_⟩
        simp only [List.length_cons] at c2
        omega
      · rename_i hne
        have hset := mu_set lo j hjl ⟨lo[j].id, (nxtR l lo[j]).1⟩
        have hids : (lo.set j ⟨lo[j].id, (nxtR l lo[j]).1⟩).map Lo.id = lo.map Lo.id := by
          apply List.ext_getElem?
          intro i
          rw [List.getElem?_map, List.getElem?_map, List.getElem?_set]
          by_cases e : j = i
          · subst e; simp [hjl]
          · rw [if_neg e]
        simp only at hset
        obtain ⟨s, e1, e2, e3⟩ := undoR_sq hl f (lo.set j ⟨lo[j].id, (nxtR l lo[j]).1⟩) (out ++ (nxtR l lo[j]).2) (by omega) (fun y hy => by
          rcases List.mem_or_eq_of_mem_set hy with hy | rfl
          · exact hp y hy
          · simp only; omega)
        rw [hids] at e2
        obtain ⟨c1, c2⟩ := clrs (List.mem_map_of_mem (List.getElem_mem hjl)) e2
        refine ⟨(nxtR l lo[j]).2 ++ s, by rw [e1]; simp, c1, ?_⟩
        omega
/-- the lines N tell what the records s tell -/
def Mt (N : List Ln) (s : List Oc) : Prop := N.length = s.length ∧ ∀ i (h : i < N.length) (h' : i < s.length), N[i].kind = s[i].kind ∧ N[i].txn = s[i].txn ∧ N[i].page = s[i].page
theorem Mt.cons {x : Ln} {N : List Ln} {o : Oc} {s : List Oc} (h : Mt (x :: N) (o :: s)) : (x.kind = o.kind ∧ x.txn = o.txn ∧ x.page = o.page) ∧ Mt N s := by
  refine ⟨h.2 0 (by simp) (by simp), by have := h.1; simpa using this, fun i hi hi' => ?_⟩
  have := h.2 (i + 1) (by simpa using hi) (by simpa using hi')
  simpa using this
theorem Mt.split {N : List Ln} {o : Oc} {s : List Oc} (h : Mt N (o :: s)) : ∃ x r, N = x :: r := by
  cases N with
  | nil => have := h.1; simp at this
  | cons x r => exact ⟨x, r, rfl⟩
theorem sq_ent {ids : List Int} {s : List Oc} (h : Sq ids s) : ∀ (N : List Ln), Mt N s → ids.Nodup → ∀ t e, N.foldl (entF t) e = if t ∈ ids then none else e := by
  induction h with
  | nil =>
    intro N hN _ t e
    have : N = [] := List.eq_nil_of_length_eq_zero (by have := hN.1; simpa using this)
    subst this; simp
  | @clr ids o s hk hm hp h ih =>
    intro N hN hn t e
    obtain ⟨x, r, rfl⟩ := hN.split
    obtain ⟨⟨k1, k2, k3⟩, hr⟩ := hN.cons
    rw [List.foldl_cons, ih r hr hn t]
    by_cases ht : t ∈ ids
    · rw [if_pos ht, if_pos ht]
    · rw [if_neg ht, if_neg ht]
      unfold entF
      rw [if_neg (fun e => ht (by rw [← e, k2]; exact hm))]
  | @fin A B o s hk hp h ih =>
    intro N hN hn t e
    obtain ⟨x, r, rfl⟩ := hN.split
    obtain ⟨⟨k1, k2, k3⟩, hr⟩ := hN.cons
    have hn2 := List.nodup_append.1 hn
    have hB := List.nodup_cons.1 hn2.2.1
    have hAB : (A ++ B).Nodup := List.nodup_append.2 ⟨hn2.1, hB.2, fun a ha b hb => hn2.2.2 a ha b (by simp [hb])⟩
    have hno : o.txn ∉ A ++ B := fun hm => by
      rcases List.mem_append.1 hm with h | h
      · exact hn2.2.2 _ h o.txn (by simp) rfl
      · exact hB.1 h
    rw [List.foldl_cons, ih r hr hAB t]
    unfold entF
    by_cases ht : t = o.txn
    · subst ht
      rw [if_neg hno, if_pos k2, if_pos (by simp)]
      unfold entS
      rw [k1, hk]
      rfl
    · by_cases hm : t ∈ A ++ B
      · rw [if_pos hm, if_pos (by rcases List.mem_append.1 hm with h | h <;> simp [h])]
      · have hne : ¬ x.txn = t := fun e => ht (by rw [← e, k2])
        rw [if_neg hm, if_neg hne, if_neg (fun h => hm (by
          rcases List.mem_append.1 h with h | h
          · exact List.mem_append_left _ h
          · rcases List.mem_cons.1 h with h | h
            · exact absurd h ht
            · exact List.mem_append_right _ h))]
theorem sq_good {ids : List Int} {s : List Oc} (h : Sq ids s) (hi : ∀ t ∈ ids, 1 ≤ t ∧ t ≤ 4) : ∀ o ∈ s, (o.kind = 3 ∨ o.kind = 6) ∧ (1 ≤ o.txn ∧ o.txn ≤ 4) ∧ 0 ≤ o.page ∧ o.page ≤ 3 := by
  induction h with
  | nil => simp
  | @clr ids o s hk hm hp h ih =>
    intro q hq
    rcases List.mem_cons.1 hq with rfl | hq
    · exact ⟨.inl hk, hi _ hm, hp⟩
    · exact ih hi q hq
  | @fin A B o s hk hp h ih =>
    intro q hq
    rcases List.mem_cons.1 hq with rfl | hq
    · exact ⟨.inr hk, hi _ (by simp), by omega, by omega⟩
    · exact ih (fun t ht => hi t (by rcases List.mem_append.1 ht with h | h <;> simp [h])) q hq
theorem loser_sub : ∀ (ts : List Tx), ((loserR ts).map Lo.id).Sublist (ts.map Tx.id)
  | [] => List.Sublist.refl _
  | t :: r => by
    unfold loserR
    split
    · exact (loser_sub r).cons _
    · split
      · exact (loser_sub r).cons _
      · exact (loser_sub r).cons_cons _
theorem loser_mem : ∀ (ts : List Tx) (e : Tx), e ∈ ts → ¬ e.st = 2 → 0 < e.last → e.id ∈ (loserR ts).map Lo.id
  | t :: r, e, he, h2, hl => by
    unfold loserR
    rcases List.mem_cons.1 he with rfl | he
    · rw [if_neg h2, if_neg (by omega)]; simp
    · have := loser_mem r e he h2 hl
      split
      · exact this
      · split
        · exact this
        · exact List.mem_cons_of_mem _ this
theorem loser_next : ∀ (ts : List Tx), ∀ x ∈ loserR ts, 0 < x.next ∧ ∃ e ∈ ts, e.id = x.id ∧ e.last = x.next
  | [], x, h => by simp [loserR] at h
  | t :: r, x, h => by
    unfold loserR at h
    have old : x ∈ loserR r → 0 < x.next ∧ ∃ e ∈ t :: r, e.id = x.id ∧ e.last = x.next := fun h => by
      obtain ⟨h1, e, he, h2⟩ := loser_next r x h
      exact ⟨h1, e, List.mem_cons_of_mem _ he, h2⟩
    split at h
    · exact old h
    · split at h
      · exact old h
      · rename_i hl
        rcases List.mem_cons.1 h with rfl | h
        · exact ⟨by simp only; omega, t, by simp, rfl, rfl⟩
        · exact old h
theorem endR_nil : ∀ (ts : List Tx), (∀ e ∈ ts, 0 < e.last) → endR ts = []
  | [], _ => rfl
  | t :: r, h => by
    unfold endR
    have := h t (by simp)
    split
    · exact endR_nil r (fun e he => h e (by simp [he]))
    · rw [if_neg (by omega)]
      exact endR_nil r (fun e he => h e (by simp [he]))
theorem done_nil (l : List Ln) : ∀ (ts : List Tx), (∀ e ∈ ts, e.st = 2) → undoAll l ts = [] := by
  intro ts h
  have h1 : ∀ ts : List Tx, (∀ e ∈ ts, e.st = 2) → loserR ts = [] ∧ endR ts = [] := by
    intro ts
    induction ts with
    | nil => intro _; exact ⟨rfl, rfl⟩
    | cons t r ih =>
      intro h
      have ht := h t (by simp)
      obtain ⟨a, b⟩ := ih (fun e he => h e (by simp [he]))
      exact ⟨by unfold loserR; rw [if_pos ht, a], by unfold endR; rw [if_pos ht, b]⟩
  obtain ⟨a, b⟩ := h1 ts h
  unfold undoAll
  rw [a, b]
  rfl
theorem ent_pos {L : List Ln} (hl : ∀ x ∈ L, 0 < x.lsn) (t : Int) : ∀ l s, entL L t = some (l, s) → 0 < l := by
  have key : ∀ (L : List Ln) (e : Option (Int × Int)), (∀ x ∈ L, 0 < x.lsn) → (∀ l s, e = some (l, s) → 0 < l) → ∀ l s, L.foldl (entF t) e = some (l, s) → 0 < l := by
    intro L
    induction L with
    | nil => intro e _ h; exact h
    | cons x r ih =>
      intro e hl h
      refine ih _ (fun y hy => hl y (by simp [hy])) ?_
      intro l s hh
      unfold entF at hh
      split at hh
      · have hx := hl x (by simp)
        unfold entS at hh
        split at hh
        · cases hh; exact hx
        · split at hh
          · cases hh; exact hx
          · split at hh
            · cases hh
            · cases hh; exact hx
      · exact h l s hh
  exact key L none hl (by intro l s h; cases h)
/-- nothing is redone where every page has seen all -/
theorem redo_none {M : List Ln} {D : List Dy} {g : Int → Int} (h : ∀ x ∈ M, chB x.kind = true → x.lsn ≤ g x.page) : redoR M D g = [] := by
  cases D with
  | nil => rfl
  | cons d r =>
    have key : ∀ (fr : Int) (N : List Ln) (s : Rs), (∀ x ∈ N, x ∈ M) → s.out = [] → (∀ p v, s.f p = some v → ∀ x ∈ M, chB x.kind = true → x.page = p → x.lsn ≤ v) → (N.foldl (stepR (d :: r) fr g) s).out = [] := by
      intro fr N
      induction N with
      | nil => intro s _ h1 _; exact h1
      | cons x q ih =>
        intro s hN h1 h2
        rw [List.foldl_cons]
        have hx := hN x (by simp)
        refine ih _ (fun y hy => hN y (by simp [hy])) ?_ ?_
        · rw [stepR_go]
          split
          · exact h1
          · rename_i hs
            have hch : chB x.kind = true := by
              unfold skipR at hs
              cases hc : chB x.kind
              · rw [hc] at hs; simp at hs
              · rfl
            have hn : ¬ (s.f x.page).getD (g x.page) < x.lsn := by
              cases e : s.f x.page with
              | none => have := h x hx hch; simp only [Option.getD_none]; omega
              | some v => have := h2 _ v e x hx hch rfl; simp only [Option.getD_some]; omega
            rw [if_neg hn]
            exact h1
        · rw [stepR_go]
          split
          · exact h2
          · rename_i hs
            have hch : chB x.kind = true := by
              unfold skipR at hs
              cases hc : chB x.kind
              · rw [hc] at hs; simp at hs
              · rfl
            have hn : ¬ (s.f x.page).getD (g x.page) < x.lsn := by
              cases e : s.f x.page with
              | none => have := h x hx hch; simp only [Option.getD_none]; omega
              | some v => have := h2 _ v e x hx hch rfl; simp only [Option.getD_some]; omega
            rw [if_neg hn]
            intro p v hv y hy hyc hyp
            simp only [upI] at hv
            split at hv
            · rename_i hp
              cases hv
              cases e : s.f x.page with
              | none =>
                have := h y hy hyc
                simp only [Option.getD_none]
                rw [hyp, hp] at this
                exact this
              | some v =>
                simp only [Option.getD_some]
                exact h2 _ v e y hy hyc (by rw [hyp, hp])
            · exact h2 p v hv y hy hyc hyp
    exact key _ M ⟨fun _ => none, []⟩ (fun x hx => hx) rfl (by intro p v hv; cases hv)
/-- the plain law of RedoTwice -/
theorem twice_plain {L : List Ln} (hL : ∀ x ∈ L, GL x ∧ 0 < x.lsn) {ts : List Tx} (hts : ts.Perm (anR L).ts) :
    ∃ s, undoAll L ts = s ∧ (∀ o ∈ s, (o.kind = 3 ∨ o.kind = 6) ∧ (1 ≤ o.txn ∧ o.txn ≤ 4) ∧ 0 ≤ o.page ∧ o.page ≤ 3) ∧ s.length ≤ 2 * loMu (loserR ts) ∧
      ∀ N, Mt N s → (∀ x ∈ N, 0 < x.lsn) → (∀ x ∈ L ++ N, GL x) ∧ (∀ e ∈ (anR (L ++ N)).ts, e.st = 2) ∧ (anR L).ds.length ≤ (anR (L ++ N)).ds.length := by
  have hT := TI.all (fun x hx => (hL x hx).1)
  have hlk : ∀ e ∈ ts, entL L e.id = some (e.last, e.st) := fun e he => by
    rw [← hT.lk]; exact look_mem hT.idn (hts.mem_iff.1 he)
  have hpos : ∀ e ∈ ts, 0 < e.last := fun e he => ent_pos (fun x hx => (hL x hx).2) _ _ _ (hlk e he)
  have hids : (ts.map Tx.id).Nodup := (hts.map Tx.id).nodup_iff.2 hT.idn
  have hnod := (loser_sub ts).nodup hids
  have hrange : ∀ t ∈ (loserR ts).map Lo.id, 1 ≤ t ∧ t ≤ 4 := fun t ht => hT.idr t ((hts.map Tx.id).mem_iff.1 ((loser_sub ts).subset ht))
  obtain ⟨s, e1, e2, e3⟩ := undoR_sq (l := L) (fun x hx => (hL x hx).1.page) (loMu (loserR ts) + 1) (loserR ts) [] (Nat.lt_succ_self _) (fun x hx => (loser_next ts x hx).1)
  have e0 : undoAll L ts = s := by
    unfold undoAll
    rw [endR_nil ts hpos, e1, List.nil_append]
  have hg := sq_good e2 hrange
  refine ⟨s, e0, hg, e3, fun N hN hNl => ?_⟩
  have hGN : ∀ x ∈ N, GL x := fun x hx => by
    obtain ⟨i, hi, rfl⟩ := List.getElem_of_mem hx
    have hi' : i < s.length := by rw [← hN.1]; exact hi
    obtain ⟨k1, k2, k3⟩ := hN.2 i hi hi'
    obtain ⟨g1, g2, g3⟩ := hg _ (List.getElem_mem hi')
    exact ⟨by omega, by omega, by omega⟩
  have hall : ∀ x ∈ L ++ N, GL x := fun x hx => by
    rcases List.mem_append.1 hx with h | h
    · exact (hL x h).1
    · exact hGN x h
  have hT2 := TI.all hall
  refine ⟨hall, fun e he => ?_, ?_⟩
  · have h1 := look_mem hT2.idn he
    rw [hT2.lk] at h1
    unfold entL at h1
    rw [List.foldl_append, sq_ent e2 N hN hnod] at h1
    split at h1
    · cases h1
    · rename_i hni
      have h2 : look (anR L).ts e.id = some (e.last, e.st) := by rw [hT.lk]; exact h1
      unfold look at h2
      cases hf : (anR L).ts.find? (fun q => q.id == e.id) with
      | none => rw [hf] at h2; cases h2
      | some q =>
        rw [hf] at h2
        have hq := List.mem_of_find?_eq_some hf
        have hqi : q.id = e.id := by have := List.find?_some hf; simpa using this
        have hqt : q ∈ ts := hts.mem_iff.2 hq
        simp only [Option.map_some, Option.some.injEq, Prod.mk.injEq] at h2
        refine Classical.byContradiction fun hst => hni ?_
        rw [← hqi]
        exact loser_mem ts q hqt (by rw [h2.2]; exact hst) (hpos q hqt)
  · unfold anR
    rw [List.foldl_append]
    exact ds_grow N _ hGN
end Go.Proofs.Ytmanokhadppeeaa
