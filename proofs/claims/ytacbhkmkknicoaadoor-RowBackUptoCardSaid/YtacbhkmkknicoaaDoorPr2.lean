/- row: the reference's reader of tables, plain; both readers tell alike. -/
import Derived.Test.YtacbhkmkknicoaaDoorPr
namespace Go.Proofs.YtacbhkmkknicoaaDoor
open Go.RowKit
set_option linter.unusedSimpArgs false
set_option linter.unusedVariables false
/-- a loop that ends where the count is reached, or what is read is bad -/
def Ends {α : Type} (f : Sq → α × Sq) (n : Int) (q : Sq) (m : Nat) : Prop := (∀ k, k < m → (k : Int) < n ∧ (its f k q).2.2 = false) ∧ (n ≤ (m : Int) ∨ (its f m q).2.2 = true)
/-- what the reference reads -/
def RefRd (q : Sq) (U : Tb) (q' : Sq) : Prop :=
  ∃ m1 m2 m3, Ends colR (numR (takeR 2 q.1 q.2).2).1 (numR (takeR 2 q.1 q.2).2).2 m1 ∧
    Ends ixR (numR (its colR m1 (numR (takeR 2 q.1 q.2).2).2).2).1 (numR (its colR m1 (numR (takeR 2 q.1 q.2).2).2).2).2 m2 ∧
    ∃ cs xs h k, its colR m1 (numR (takeR 2 q.1 q.2).2).2 = cs ∧ its ixR m2 (numR cs.2).2 = xs ∧ numR xs.2 = h ∧ numR h.2 = k ∧ Ends numR k.1 k.2 m3 ∧
      U = mkT (takeR 2 q.1 q.2).1.s cs.1 xs.1 h.1 (its numR m3 k.2).1 ∧ q' = (its numR m3 k.2).2
theorem its_bd {α : Type} {f : Sq → α × Sq} {e : α → List V} {k : Nat} {ok : α → Prop} (h : Rdr f e k ok) (hk : 1 ≤ k) {q : Sq} {m : Nat} (hb : (its f m q).2.2 = false) : m ≤ q.1.length := by
  have := (h.its_use q m hb).2
  have : m * 1 ≤ m * k := Nat.mul_le_mul_left m hk
  omega
theorem cl_sch {t : Tb} {B : Nat} (hB : B ≤ 9223372036854775807) (h1 : t.cs.length ≤ B) (h2 : t.xs.length ≤ B) (h3 : t.rs.length ≤ B) (c : ∀ x ∈ t.cs, okI x.ty) (x : ∀ x ∈ t.xs, okI x.co) (hh : okI t.hd) (r : ∀ n ∈ t.rs, okI n) : ∀ v ∈ schL t, Cl v := by
  have nat : ∀ n : Nat, n ≤ B → Cl (numV (n : Int)) := fun n hn => .inr (.inl ⟨_, rfl, by omega, by omega⟩)
  have tx : ∀ s, Cl (textV s) := fun s => .inr (.inr (.inl ⟨s, rfl⟩))
  have bo : ∀ b, Cl (boolV b) := fun b => .inr (.inr (.inr ⟨b, rfl⟩))
  have nu : ∀ n, okI n → Cl (numV n) := fun n hn => .inr (.inl ⟨n, rfl, hn⟩)
  intro v hv
  unfold schL at hv
  rcases List.mem_append.1 hv with hv | hv
  · unfold sch3 at hv
    rcases List.mem_append.1 hv with hv | hv
    · rcases List.mem_append.1 hv with hv | hv
      · unfold sch2 at hv
        rcases List.mem_append.1 hv with hv | hv
        · rcases List.mem_append.1 hv with hv | hv
          · simp only [sch1, List.mem_cons, List.not_mem_nil, or_false] at hv
            rcases hv with rfl | rfl
            · exact tx _
            · exact nat _ h1
          · obtain ⟨y, hy, hv⟩ := List.mem_flatMap.1 hv
            simp only [schC, List.mem_cons, List.not_mem_nil, or_false] at hv
            rcases hv with rfl | rfl | rfl | rfl
            · exact tx _
            · exact nu _ (c y hy)
            · exact bo _
            · exact bo _
        · simp only [List.mem_cons, List.not_mem_nil, or_false] at hv
          subst hv
          exact nat _ h2
      · obtain ⟨y, hy, hv⟩ := List.mem_flatMap.1 hv
        simp only [schX, List.mem_cons, List.not_mem_nil, or_false] at hv
        rcases hv with rfl | rfl | rfl
        · exact tx _
        · exact nu _ (x y hy)
        · exact bo _
    · simp only [List.mem_cons, List.not_mem_nil, or_false] at hv
      rcases hv with rfl | rfl
      · exact nu _ hh
      · exact nat _ h3
  · obtain ⟨y, hy, rfl⟩ := List.mem_map.1 hv
    exact nu _ (r y hy)
theorem ends_on {α : Type} {f : Sq → α × Sq} {e : α → List V} {k : Nat} {ok : α → Prop} (h : Rdr f e k ok) {L : List α} {r : List V} {m : Nat} (he : Ends f (L.length : Int) (L.flatMap e ++ r, false) m) : m = L.length := by
  have h1 : m ≤ L.length := by
    rcases m with _ | m
    · omega
    · have := (he.1 m (by omega)).1
      omega
  rcases he.2 with h2 | h2
  · omega
  · rw [h.its_on L r m h1] at h2
    cases h2
/-- of a table's values the reference reads that table -/
theorem ref_on {t U : Tb} {q' : Sq} (h : RefRd (schL t, false) U q') : U = mkT t.nm t.cs t.xs t.hd t.rs ∧ q' = ([], false) := by
  have e : schL t = textV t.nm :: (numV (t.cs.length : Int) :: (t.cs.flatMap schC ++ (numV (t.xs.length : Int) :: (t.xs.flatMap schX ++ (numV t.hd :: (numV (t.rs.length : Int) :: ((t.rs.flatMap fun n => [numV n]) ++ []))))))) := by
    rw [fm_map]
    simp [schL, sch3, sch2, sch1]
  rw [e] at h
  unfold RefRd at h
  simp only at h
  rw [takeR_on 2 _ _ rfl] at h
  obtain ⟨m1, m2, m3, h1, h2, cs, xs, hd, k, r1, r2, r3, r4, h3, r5, r6⟩ := h
  have on : ∀ n r, numR (numV n :: r, false) = (n, (r, false)) := rdr_num.on
  simp only [on] at h1 h2 r1
  have i1 := ends_on rdr_col h1
  subst i1
  rw [rdr_col.its_all] at h2 r1
  simp only [on] at h2
  subst r1
  simp only [on] at r2
  have i2 := ends_on rdr_ix h2
  subst i2
  rw [rdr_ix.its_all] at r2
  subst r2
  simp only [on] at r3
  subst r3
  simp only [on] at r4
  subst r4
  simp only at h3 r5 r6
  have i3 := ends_on rdr_num h3
  subst i3
  rw [rdr_num.its_all] at r5 r6
  exact ⟨r5, r6⟩
/-- what the reference has read whole, and writes as it was, are a table's values -/
theorem ref_back {l : List V} {b : Bool} {U : Tb} (hl : l.length ≤ 1000000000) (hc : ∀ v ∈ l, Cl v) (h : RefRd (l, b) U ([], false)) : b = false ∧ (joinV (schL U) = joinV l → l = schL U) := by
  unfold RefRd at h
  simp only at h
  have c1 := (takeR_cl 2 l b hc).1
  have l1 := takeR_len 2 l b
  have o1 := @takeR_ok 2 l b
  generalize takeR 2 l b = a at *
  obtain ⟨av, al, ab⟩ := a
  simp only at *
  obtain ⟨m1, m2, m3, h1, h2, cs, xs, hd, k, r1, r2, r3, r4, h3, r5, r6⟩ := h
  have c2 := (rdr_num.cl al ab c1).1
  have l2 := rdr_num.len (al, ab)
  have o2 := rdr_num.use al ab
  generalize numR (al, ab) = n at *
  obtain ⟨nv, nl, nb⟩ := n
  simp only at *
  have c3 := rdr_col.its_cl (nl, nb) c2 m1
  have l3 := rdr_col.its_shorter (nl, nb) m1
  have o3 := @its_bd _ _ _ _ _ rdr_col (by omega) (nl, nb) m1
  have u3 := rdr_col.its_use (nl, nb) m1
  have n3 := its_len colR (nl, nb) m1
  rw [r1] at c3 l3 o3 u3 n3 h2
  obtain ⟨cs, cl, cb⟩ := cs
  simp only at *
  have c4 := (rdr_num.cl cl cb c3.1).1
  have l4 := rdr_num.len (cl, cb)
  have o4 := rdr_num.use cl cb
  generalize numR (cl, cb) = m at *
  obtain ⟨mv, ml, mb⟩ := m
  simp only at *
  have c5 := rdr_ix.its_cl (ml, mb) c4 m2
  have l5 := rdr_ix.its_shorter (ml, mb) m2
  have o5 := @its_bd _ _ _ _ _ rdr_ix (by omega) (ml, mb) m2
  have u5 := rdr_ix.its_use (ml, mb) m2
  have n5 := its_len ixR (ml, mb) m2
  rw [r2] at c5 l5 o5 u5 n5
  obtain ⟨xs, xl, xb⟩ := xs
  simp only at *
  have c6 := rdr_num.cl xl xb c5.1
  have l6 := rdr_num.len (xl, xb)
  have o6 := rdr_num.use xl xb
  rw [r3] at c6 l6 o6
  obtain ⟨hv, hl', hb⟩ := hd
  simp only at *
  have c7 := (rdr_num.cl hl' hb c6.1).1
  have l7 := rdr_num.len (hl', hb)
  have o7 := rdr_num.use hl' hb
  rw [r4] at c7 l7 o7
  obtain ⟨kv, kl, kb⟩ := k
  simp only at *
  have c8 := rdr_num.its_cl (kl, kb) c7 m3
  have l8 := rdr_num.its_shorter (kl, kb) m3
  have o8 := @its_bd _ _ _ _ _ rdr_num (by omega) (kl, kb) m3
  have u8 := rdr_num.its_use (kl, kb) m3
  have n8 := its_len numR (kl, kb) m3
  rw [← r6] at c8 l8 o8 u8
  have p8 : m3 ≤ kl.length := o8 rfl
  obtain ⟨hkb, _⟩ := u8 rfl
  subst hkb
  obtain ⟨hhb, _⟩ := o7 rfl
  subst hhb
  obtain ⟨hxb, _⟩ := o6 rfl
  subst hxb
  have p5 : m2 ≤ ml.length := o5 rfl
  obtain ⟨hmb, _⟩ := u5 rfl
  subst hmb
  obtain ⟨hcb, _⟩ := o4 rfl
  subst hcb
  have p3 : m1 ≤ nl.length := o3 rfl
  obtain ⟨hnb, _⟩ := u3 rfl
  subst hnb
  obtain ⟨hab, _⟩ := o2 rfl
  subst hab
  obtain ⟨hb0, e1, t1⟩ := o1 rfl
  have hle := len_join l
  refine ⟨hb0, fun hj => ?_⟩
  refine (join_inj (cl_sch (B := 1000000000) (by omega) ?_ ?_ ?_ ?_ ?_ ?_ ?_) hc hj).symm
  · rw [r5]; show cs.length ≤ _; omega
  · rw [r5]; show xs.length ≤ _; omega
  · rw [r5]; show (its numR m3 (kl, false)).1.length ≤ _; omega
  · rw [r5]; exact c3.2
  · rw [r5]; exact c5.2
  · rw [r5]; exact c6.2
  · rw [r5]; exact c8.2
/-- a table or none -/
def tabO (q : Tb × Sq) : Option Tb := if (q.2.1.isEmpty && !q.2.2) = true then some q.1 else none
def noT : Tb := mkT ⟨#[]⟩ [] [] 0 []
/-- where a reader begins -/
def stOf (R : Option (List V)) : Sq := match R with
  | none => ([], true)
  | some l => (l, false)
/-- what the reference tells: the table, where all is read and it writes as it was -/
def RefT (b : List Int) (q : Sq) (Y : Option Tb) : Prop := ∃ U q', RefRd q U q' ∧ ((q' = ([], false) ∧ joinV (schL U) = b) ∧ Y = some U ∨ ¬ (q' = ([], false) ∧ joinV (schL U) = b) ∧ Y = none)
theorem tabR_mk (q : Sq) : ∃ nm cs xs hd rs, (tabR q).1 = mkT nm cs xs hd rs := ⟨_, _, _, _, _, rfl⟩
/-- both tell alike -/
theorem same_read {b : List Int} {Y : Option Tb} (hb : byteI b) (hl : b.length ≤ 1000000000) (h : RefT b (stOf (splitV b)) Y) : Y = tabO (tabR (stOf (splitV b))) := by
  obtain ⟨U, q', hr, hy⟩ := h
  cases hs : splitV b with
  | none =>
    rw [hs] at hr
    have h1 : tabO (tabR (stOf none)) = none := by
      unfold tabO
      rw [if_neg]
      intro hc
      simp only [Bool.and_eq_true, List.isEmpty_iff, Bool.not_eq_true'] at hc
      have h2 := (tab_back (l := []) (b := true) (fun v hv => by simp at hv) (by
        show (tabR ([], true)).2 = _
        exact Prod.ext hc.1 hc.2)).1
      cases h2
    rw [h1]
    rcases hy with ⟨⟨rfl, hj⟩, _⟩ | ⟨_, rfl⟩
    · have h2 := (ref_back (l := []) (b := true) (by simp) (fun v hv => by simp at hv) hr).1
      cases h2
    · rfl
  | some l =>
    rw [hs] at hr
    obtain ⟨hj, hc⟩ := splitV_back hb hs
    have hll : l.length ≤ 1000000000 := by
      have := len_join l
      rw [hj] at this; omega
    by_cases hw : (tabR (l, false)).2 = ([], false)
    · have h1 : tabO (tabR (stOf (some l))) = some (tabR (l, false)).1 := by
        show (if ((tabR (l, false)).2.1.isEmpty && !(tabR (l, false)).2.2) = true then some (tabR (l, false)).1 else none) = _
        rw [if_pos]
        rw [hw]; rfl
      rw [h1]
      have h2 := (tab_back hc hw).2
      obtain ⟨nm, cs, xs, hd, rs, e⟩ := tabR_mk (l, false)
      rw [e] at h2 ⊢
      have hr' : RefRd (schL (mkT nm cs xs hd rs), false) U q' := by rw [← h2]; exact hr
      obtain ⟨rfl, rfl⟩ := ref_on hr'
      rcases hy with ⟨_, rfl⟩ | ⟨hn, _⟩
      · rfl
      · refine absurd ⟨rfl, ?_⟩ hn
        show joinV (schL (mkT nm cs xs hd rs)) = b
        rw [← h2, hj]
    · have h1 : tabO (tabR (stOf (some l))) = none := by
        unfold tabO
        rw [if_neg]
        intro hcc
        simp only [Bool.and_eq_true, List.isEmpty_iff, Bool.not_eq_true'] at hcc
        exact hw (Prod.ext hcc.1 hcc.2)
      rw [h1]
      rcases hy with ⟨⟨rfl, hjb⟩, _⟩ | ⟨_, rfl⟩
      · have h2 := (ref_back hll hc hr).2 (by rw [hjb, hj])
        refine absurd ?_ hw
        rw [h2, tab_on]
      · rfl
end Go.Proofs.YtacbhkmkknicoaaDoor
