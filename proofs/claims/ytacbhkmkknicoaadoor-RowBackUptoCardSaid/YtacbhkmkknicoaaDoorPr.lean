/- row: what the two readers of tables tell, plain. -/
import Derived.Test.YtacbhkmkknicoaaDoorPl
import Derived.Test.YtacbhkmkknicoaaDoorR2
namespace Go.Proofs.YtacbhkmkknicoaaDoor
open Go.RowKit
set_option linter.unusedSimpArgs false
set_option linter.unusedVariables false
abbrev Sq := List V × Bool
/-- one column is read -/
def colR (q : Sq) : Col × Sq :=
  let a := takeR 2 q.1 q.2
  let b := takeR 1 a.2.1 a.2.2
  let c := takeR 3 b.2.1 b.2.2
  let d := takeR 3 c.2.1 c.2.2
  (⟨a.1.s, b.1.n, c.1.b, d.1.b⟩, d.2)
/-- one index -/
def ixR (q : Sq) : Ix × Sq :=
  let a := takeR 2 q.1 q.2
  let b := takeR 1 a.2.1 a.2.2
  let c := takeR 3 b.2.1 b.2.2
  (⟨a.1.s, b.1.n, c.1.b⟩, c.2)
/-- one number -/
def numR (q : Sq) : Int × Sq := ((takeR 1 q.1 q.2).1.n, (takeR 1 q.1 q.2).2)
section
variable {α : Type}
/-- so many are read -/
def its (f : Sq → α × Sq) : Nat → Sq → List α × Sq
  | 0, q => ([], q)
  | n + 1, q => ((its f n q).1 ++ [(f (its f n q).2).1], (f (its f n q).2).2)
theorem its_len (f : Sq → α × Sq) (q : Sq) : ∀ n, (its f n q).1.length = n
  | 0 => rfl
  | n + 1 => by simp only [its, List.length_append, its_len f q n]; rfl
/-- a reader of items, each of k values -/
structure Rdr (f : Sq → α × Sq) (e : α → List V) (k : Nat) (ok : α → Prop) : Prop where
  bad : ∀ l, (f (l, true)).2.2 = true
  len : ∀ q, (f q).2.1.length ≤ q.1.length
  use : ∀ l b, (f (l, b)).2.2 = false → b = false ∧ (f (l, b)).2.1.length + k = l.length
  back : ∀ l b, (∀ v ∈ l, Cl v) → (f (l, b)).2.2 = false → l = e (f (l, b)).1 ++ (f (l, b)).2.1
  cl : ∀ l b, (∀ v ∈ l, Cl v) → (∀ v ∈ (f (l, b)).2.1, Cl v) ∧ ok (f (l, b)).1
  on : ∀ x r, f (e x ++ r, false) = (x, (r, false))
variable {f : Sq → α × Sq} {e : α → List V} {k : Nat} {ok : α → Prop}
theorem Rdr.its_bad (h : Rdr f e k ok) (l : List V) : ∀ n, (its f n (l, true)).2.2 = true
  | 0 => rfl
  | n + 1 => by
    have ih := h.its_bad l n
    simp only [its]
    generalize (its f n (l, true)).2 = q at *
    obtain ⟨m, b⟩ := q
    simp only at ih
    subst ih
    exact h.bad m
theorem Rdr.its_shorter (h : Rdr f e k ok) (q : Sq) : ∀ n, (its f n q).2.1.length ≤ q.1.length
  | 0 => Nat.le_refl _
  | n + 1 => Nat.le_trans (h.len _) (h.its_shorter q n)
theorem Rdr.its_cl (h : Rdr f e k ok) (q : Sq) (hq : ∀ v ∈ q.1, Cl v) : ∀ n, (∀ v ∈ (its f n q).2.1, Cl v) ∧ ∀ x ∈ (its f n q).1, ok x
  | 0 => ⟨hq, fun x hx => by simp [its] at hx⟩
  | n + 1 => by
    obtain ⟨i1, i2⟩ := h.its_cl q hq n
    simp only [its]
    generalize its f n q = r at *
    obtain ⟨xs, m, b⟩ := r
    obtain ⟨c1, c2⟩ := h.cl m b i1
    refine ⟨c1, fun x hx => ?_⟩
    rcases List.mem_append.1 hx with hx | hx
    · exact i2 x hx
    · rw [List.mem_singleton.1 hx]; exact c2
theorem Rdr.its_use (h : Rdr f e k ok) (q : Sq) : ∀ n, (its f n q).2.2 = false → q.2 = false ∧ (its f n q).2.1.length + n * k = q.1.length
  | 0, hb => ⟨hb, by simp [its]⟩
  | n + 1, hb => by
    simp only [its] at hb ⊢
    have ih := h.its_use q n
    generalize (its f n q).2 = r at *
    obtain ⟨m, b⟩ := r
    obtain ⟨u1, u3⟩ := h.use m b hb
    obtain ⟨i1, i2⟩ := ih u1
    refine ⟨i1, ?_⟩
    simp only at i2
    rw [Nat.add_mul]; omega
theorem Rdr.its_back (h : Rdr f e k ok) (q : Sq) (hq : ∀ v ∈ q.1, Cl v) : ∀ n, (its f n q).2.2 = false → q.1 = (its f n q).1.flatMap e ++ (its f n q).2.1
  | 0, hb => by simp [its]
  | n + 1, hb => by
    have hc := (h.its_cl q hq n).1
    have ih := h.its_back q hq n
    simp only [its] at hb ⊢
    generalize its f n q = r at *
    obtain ⟨xs, m, b⟩ := r
    simp only at hb hc ih ⊢
    have u := h.use m b hb
    have := h.back m b hc hb
    rw [ih u.1]
    rw [List.flatMap_append]
    simp only [List.flatMap_cons, List.flatMap_nil, List.append_nil, List.append_assoc]
    rw [← this]
theorem Rdr.its_on (h : Rdr f e k ok) (L : List α) (r : List V) : ∀ n, n ≤ L.length → its f n (L.flatMap e ++ r, false) = (L.take n, ((L.drop n).flatMap e ++ r, false))
  | 0, _ => by simp [its]
  | n + 1, hn => by
    simp only [its, h.its_on L r n (by omega)]
    rw [List.drop_eq_getElem_cons (by omega), List.flatMap_cons, List.append_assoc, h.on, List.take_add_one, List.getElem?_eq_getElem (by omega)]
    rfl
theorem Rdr.its_all (h : Rdr f e k ok) (L : List α) (r : List V) : its f L.length (L.flatMap e ++ r, false) = (L, (r, false)) := by
  rw [h.its_on L r L.length (Nat.le_refl _)]
  simp
end
theorem takeR_bad (k : Int) (l : List V) : takeR k l true = (nul, l, true) := by simp [takeR]
theorem takeR_on (k : Int) (v : V) (r : List V) (h : v.t = k) : takeR k (v :: r) false = (v, r, false) := by simp [takeR, h]
theorem takeR_ok {k : Int} {l : List V} {b : Bool} (h : (takeR k l b).2.2 = false) : b = false ∧ l = (takeR k l b).1 :: (takeR k l b).2.1 ∧ (takeR k l b).1.t = k := by
  cases b with
  | true => simp [takeR] at h
  | false =>
    match l with
    | [] => simp [takeR] at h
    | v :: r =>
      by_cases hk : v.t = k
      · rw [takeR_on k v r hk]; exact ⟨rfl, rfl, hk⟩
      · simp [takeR, hk] at h
theorem takeR_len (k : Int) (l : List V) (b : Bool) : (takeR k l b).2.1.length ≤ l.length := by
  cases b with
  | true => simp [takeR]
  | false =>
    match l with
    | [] => simp [takeR]
    | v :: r =>
      by_cases hk : v.t = k
      · rw [takeR_on k v r hk]; simp
      · simp [takeR, hk]
theorem takeR_cl (k : Int) (l : List V) (b : Bool) (h : ∀ v ∈ l, Cl v) : (∀ v ∈ (takeR k l b).2.1, Cl v) ∧ Cl (takeR k l b).1 := by
  cases b with
  | true => simp [takeR]; exact ⟨h, .inl rfl⟩
  | false =>
    match l with
    | [] => simp [takeR]; exact .inl rfl
    | v :: r =>
      by_cases hk : v.t = k
      · rw [takeR_on k v r hk]; exact ⟨fun x hx => h x (by simp [hx]), h v (by simp)⟩
      · simp [takeR, hk]; exact ⟨⟨h v (by simp), fun x hx => h x (by simp [hx])⟩, .inl rfl⟩
theorem cl_2 {v : V} (h : Cl v) (ht : v.t = 2) : v = textV v.s := by
  rcases h with rfl | ⟨n, rfl, _⟩ | ⟨s, rfl⟩ | ⟨b, rfl⟩ <;> first | rfl | (simp [nul, numV, textV, boolV] at ht)
theorem cl_1 {v : V} (h : Cl v) (ht : v.t = 1) : v = numV v.n := by
  rcases h with rfl | ⟨n, rfl, _⟩ | ⟨s, rfl⟩ | ⟨b, rfl⟩ <;> first | rfl | (simp [nul, numV, textV, boolV] at ht)
theorem cl_3 {v : V} (h : Cl v) (ht : v.t = 3) : v = boolV v.b := by
  rcases h with rfl | ⟨n, rfl, _⟩ | ⟨s, rfl⟩ | ⟨b, rfl⟩ <;> first | rfl | (simp [nul, numV, textV, boolV] at ht)
theorem rdr_col : Rdr colR schC 4 (fun c => okI c.ty) where
  bad l := by simp only [colR, takeR_bad]
  len q := by
    simp only [colR]
    exact Nat.le_trans (takeR_len _ _ _) (Nat.le_trans (takeR_len _ _ _) (Nat.le_trans (takeR_len _ _ _) (takeR_len _ _ _)))
  use l b h := by
    simp only [colR] at h ⊢
    obtain ⟨h4, e4, _⟩ := takeR_ok h
    obtain ⟨h3, e3, _⟩ := takeR_ok h4
    obtain ⟨h2, e2, _⟩ := takeR_ok h3
    obtain ⟨h1, e1, _⟩ := takeR_ok h2
    refine ⟨h1, ?_⟩
    have l1 := congrArg List.length e1
    have l2 := congrArg List.length e2
    have l3 := congrArg List.length e3
    have l4 := congrArg List.length e4
    simp only [List.length_cons] at l1 l2 l3 l4
    omega
  back l b hc h := by
    simp only [colR] at h ⊢
    obtain ⟨h4, e4, t4⟩ := takeR_ok h
    obtain ⟨h3, e3, t3⟩ := takeR_ok h4
    obtain ⟨h2, e2, t2⟩ := takeR_ok h3
    obtain ⟨h1, e1, t1⟩ := takeR_ok h2
    have c1 := takeR_cl 2 l b hc
    have c2 := takeR_cl 1 _ (takeR 2 l b).2.2 c1.1
    have c3 := takeR_cl 3 _ (takeR 1 (takeR 2 l b).2.1 (takeR 2 l b).2.2).2.2 c2.1
    have c4 := takeR_cl 3 _ (takeR 3 (takeR 1 (takeR 2 l b).2.1 (takeR 2 l b).2.2).2.1 (takeR 1 (takeR 2 l b).2.1 (takeR 2 l b).2.2).2.2).2.2 c3.1
    have v1 := cl_2 c1.2 t1
    have v2 := cl_1 c2.2 t2
    have v3 := cl_3 c3.2 t3
    have v4 := cl_3 c4.2 t4
    simp only [schC, List.cons_append, List.nil_append]
    rw [← v1, ← v2, ← v3, ← v4, ← e4, ← e3, ← e2, ← e1]
  cl l b hc := by
    simp only [colR]
    have c1 := takeR_cl 2 l b hc
    have c2 := takeR_cl 1 _ (takeR 2 l b).2.2 c1.1
    have c3 := takeR_cl 3 _ (takeR 1 (takeR 2 l b).2.1 (takeR 2 l b).2.2).2.2 c2.1
    have c4 := takeR_cl 3 _ (takeR 3 (takeR 1 (takeR 2 l b).2.1 (takeR 2 l b).2.2).2.1 (takeR 1 (takeR 2 l b).2.1 (takeR 2 l b).2.2).2.2).2.2 c3.1
    exact ⟨c4.1, (cl_text c2.2).2⟩
  on x r := by
    simp only [colR, schC, List.cons_append, List.nil_append]
    rw [takeR_on 2 _ _ rfl]
    simp only
    rw [takeR_on 1 _ _ rfl]
    simp only
    rw [takeR_on 3 _ _ rfl]
    simp only
    rw [takeR_on 3 _ _ rfl]
    rfl
theorem rdr_ix : Rdr ixR schX 3 (fun c => okI c.co) where
  bad l := by simp only [ixR, takeR_bad]
  len q := by
    simp only [ixR]
    exact Nat.le_trans (takeR_len _ _ _) (Nat.le_trans (takeR_len _ _ _) (takeR_len _ _ _))
  use l b h := by
    simp only [ixR] at h ⊢
    obtain ⟨h3, e3, _⟩ := takeR_ok h
    obtain ⟨h2, e2, _⟩ := takeR_ok h3
    obtain ⟨h1, e1, _⟩ := takeR_ok h2
    refine ⟨h1, ?_⟩
    have l1 := congrArg List.length e1
    have l2 := congrArg List.length e2
    have l3 := congrArg List.length e3
    simp only [List.length_cons] at l1 l2 l3
    omega
  back l b hc h := by
    simp only [ixR] at h ⊢
    obtain ⟨h3, e3, t3⟩ := takeR_ok h
    obtain ⟨h2, e2, t2⟩ := takeR_ok h3
    obtain ⟨h1, e1, t1⟩ := takeR_ok h2
    have c1 := takeR_cl 2 l b hc
    have c2 := takeR_cl 1 _ (takeR 2 l b).2.2 c1.1
    have c3 := takeR_cl 3 _ (takeR 1 (takeR 2 l b).2.1 (takeR 2 l b).2.2).2.2 c2.1
    have v1 := cl_2 c1.2 t1
    have v2 := cl_1 c2.2 t2
    have v3 := cl_3 c3.2 t3
    simp only [schX, List.cons_append, List.nil_append]
    rw [← v1, ← v2, ← v3, ← e3, ← e2, ← e1]
  cl l b hc := by
    simp only [ixR]
    have c1 := takeR_cl 2 l b hc
    have c2 := takeR_cl 1 _ (takeR 2 l b).2.2 c1.1
    have c3 := takeR_cl 3 _ (takeR 1 (takeR 2 l b).2.1 (takeR 2 l b).2.2).2.2 c2.1
    exact ⟨c3.1, (cl_text c2.2).2⟩
  on x r := by
    simp only [ixR, schX, List.cons_append, List.nil_append]
    rw [takeR_on 2 _ _ rfl]
    simp only
    rw [takeR_on 1 _ _ rfl]
    simp only
    rw [takeR_on 3 _ _ rfl]
    rfl
theorem rdr_num : Rdr numR (fun n => [numV n]) 1 okI where
  bad l := by simp only [numR, takeR_bad]
  len q := by simp only [numR]; exact takeR_len _ _ _
  use l b h := by
    simp only [numR] at h ⊢
    obtain ⟨h1, e1, _⟩ := takeR_ok h
    refine ⟨h1, ?_⟩
    have l1 := congrArg List.length e1
    simp only [List.length_cons] at l1
    omega
  back l b hc h := by
    simp only [numR] at h ⊢
    obtain ⟨h1, e1, t1⟩ := takeR_ok h
    have c1 := takeR_cl 1 l b hc
    have v1 := cl_1 c1.2 t1
    simp only [List.cons_append, List.nil_append]
    rw [← v1, ← e1]
  cl l b hc := by
    simp only [numR]
    have c1 := takeR_cl 1 l b hc
    exact ⟨c1.1, (cl_text c1.2).2⟩
  on x r := by
    simp only [numR, List.cons_append, List.nil_append]
    rw [takeR_on 1 _ _ rfl]
    rfl
/-- a table of these fields, wherever it stands -/
def mkT (nm : ByteArray) (cs : List Col) (xs : List Ix) (hd : Int) (rs : List Int) : Tb := ⟨nm, none, cs, 0, none, xs, 0, hd, none, rs, 0⟩
theorem schL_mk (t : Tb) : schL t = schL (mkT t.nm t.cs t.xs t.hd t.rs) := rfl
theorem fm_map (rs : List Int) : (rs.flatMap fun n => [numV n]) = rs.map numV := by
  induction rs with
  | nil => rfl
  | cons x r ih => rw [List.flatMap_cons, ih]; rfl
/-- what row.Table reads -/
def tabR (q : Sq) : Tb × Sq :=
  let a := takeR 2 q.1 q.2
  let n := cntR a.2.1 a.2.2
  let cs := its colR n.1.toNat n.2
  let m := cntR cs.2.1 cs.2.2
  let xs := its ixR m.1.toNat m.2
  let h := takeR 1 xs.2.1 xs.2.2
  let k := cntR h.2.1 h.2.2
  let rs := its numR k.1.toNat k.2
  (mkT a.1.s cs.1 xs.1 h.1.n rs.1, rs.2)
theorem cntR_ok {l : List V} {b : Bool} (hc : ∀ v ∈ l, Cl v) (h : (cntR l b).2.2 = false) : b = false ∧ l = numV (cntR l b).1 :: (cntR l b).2.1 ∧ 0 ≤ (cntR l b).1 := by
  unfold cntR at h ⊢
  simp only at h ⊢
  split at h
  · cases h
  · rename_i hn
    rw [if_neg hn]
    simp only at h ⊢
    obtain ⟨h1, e1, t1⟩ := takeR_ok h
    have c1 := takeR_cl 1 l b hc
    have v1 := cl_1 c1.2 t1
    simp only [Bool.or_eq_true, decide_eq_true_eq] at hn
    refine ⟨h1, ?_, by omega⟩
    rw [← v1, ← e1]
theorem cntR_on (n : Nat) (r : List V) (h : n ≤ r.length) : cntR (numV (n : Int) :: r) false = ((n : Int), (r, false)) := by
  have e : cntR (numV (n : Int) :: r) false = if (decide ((n : Int) < 0) || decide ((r.length : Int) < (n : Int))) = true then (0, r, true) else ((n : Int), r, false) := rfl
  rw [e, if_neg]
  simp only [Bool.or_eq_true, decide_eq_true_eq]
  omega
theorem cntR_cl (l : List V) (b : Bool) (h : ∀ v ∈ l, Cl v) : ∀ v ∈ (cntR l b).2.1, Cl v := by
  unfold cntR
  simp only
  split <;> exact (takeR_cl 1 l b h).1
/-- what was read whole are a table's values -/
theorem tab_back {l : List V} {b : Bool} (hc : ∀ v ∈ l, Cl v) (h : (tabR (l, b)).2 = ([], false)) : b = false ∧ l = schL (tabR (l, b)).1 := by
  unfold tabR at h ⊢
  simp only at h ⊢
  have c1 := (takeR_cl 2 l b hc).1
  have o1 := @takeR_ok 2 l b
  have v1 := @cl_2 _ (takeR_cl 2 l b hc).2
  generalize takeR 2 l b = a at *
  obtain ⟨av, al, ab⟩ := a
  simp only at *
  have c2 := cntR_cl al ab c1
  have o2 := @cntR_ok al ab c1
  generalize cntR al ab = n at *
  obtain ⟨nv, nl, nb⟩ := n
  simp only at *
  have c3 := (rdr_col.its_cl (nl, nb) c2 nv.toNat).1
  have o3 := rdr_col.its_back (nl, nb) c2 nv.toNat
  have u3 := rdr_col.its_use (nl, nb) nv.toNat
  have n3 := its_len colR (nl, nb) nv.toNat
  generalize its colR nv.toNat (nl, nb) = cs at *
  obtain ⟨cs, cl, cb⟩ := cs
  simp only at *
  have c4 := cntR_cl cl cb c3
  have o4 := @cntR_ok cl cb c3
  generalize cntR cl cb = m at *
  obtain ⟨mv, ml, mb⟩ := m
  simp only at *
  have c5 := (rdr_ix.its_cl (ml, mb) c4 mv.toNat).1
  have o5 := rdr_ix.its_back (ml, mb) c4 mv.toNat
  have u5 := rdr_ix.its_use (ml, mb) mv.toNat
  have n5 := its_len ixR (ml, mb) mv.toNat
  generalize its ixR mv.toNat (ml, mb) = xs at *
  obtain ⟨xs, xl, xb⟩ := xs
  simp only at *
  have c6 := (takeR_cl 1 xl xb c5).1
  have o6 := @takeR_ok 1 xl xb
  have v6 := @cl_1 _ (takeR_cl 1 xl xb c5).2
  generalize takeR 1 xl xb = hh at *
  obtain ⟨hv, hl, hb⟩ := hh
  simp only at *
  have c7 := cntR_cl hl hb c6
  have o7 := @cntR_ok hl hb c6
  generalize cntR hl hb = k at *
  obtain ⟨kv, kl, kb⟩ := k
  simp only at *
  have o8 := rdr_num.its_back (kl, kb) c7 kv.toNat
  have u8 := rdr_num.its_use (kl, kb) kv.toNat
  have n8 := its_len numR (kl, kb) kv.toNat
  generalize its numR kv.toNat (kl, kb) = rs at *
  obtain ⟨rs, rl, rb⟩ := rs
  simp only at *
  cases h
  obtain ⟨hkb, _⟩ := u8 rfl
  subst hkb
  obtain ⟨hhb, e7, p7⟩ := o7 rfl
  subst hhb
  obtain ⟨hxb, e6, t6⟩ := o6 rfl
  subst hxb
  obtain ⟨hmb, _⟩ := u5 rfl
  subst hmb
  obtain ⟨hcb, e4, p4⟩ := o4 rfl
  subst hcb
  obtain ⟨hnb, _⟩ := u3 rfl
  subst hnb
  obtain ⟨hab, e2, p2⟩ := o2 rfl
  subst hab
  obtain ⟨hb0, e1, t1⟩ := o1 rfl
  refine ⟨hb0, ?_⟩
  have w1 := v1 t1
  have w6 := v6 t6
  rw [e1, e2, o3 rfl, e4, o5 rfl, e6, e7, o8 rfl]
  have q3 : ((cs.length : Nat) : Int) = nv := by rw [n3]; omega
  have q5 : ((xs.length : Nat) : Int) = mv := by rw [n5]; omega
  have q8 : ((rs.length : Nat) : Int) = kv := by rw [n8]; omega
  simp only [schL, sch3, sch2, sch1, mkT, q3, q5, q8, ← w1, ← w6, List.append_nil, List.append_assoc, List.cons_append, List.nil_append]
  rw [fm_map]
/-- a table's values are read whole -/
theorem tab_on (t : Tb) : tabR (schL t, false) = (mkT t.nm t.cs t.xs t.hd t.rs, ([], false)) := by
  have e : schL t = textV t.nm :: (numV (t.cs.length : Int) :: (t.cs.flatMap schC ++ (numV (t.xs.length : Int) :: (t.xs.flatMap schX ++ (numV t.hd :: (numV (t.rs.length : Int) :: ((t.rs.flatMap fun n => [numV n]) ++ []))))))) := by
    rw [fm_map]
    simp [schL, sch3, sch2, sch1]
  have l1 := len4 t.cs
  have l2 := len3 t.xs
  rw [e]
  unfold tabR
  simp only
  rw [takeR_on 2 _ _ rfl]
  simp only
  rw [cntR_on _ _ (by rw [List.length_append, l1]; omega)]
  simp only [Int.toNat_natCast]
  rw [rdr_col.its_all]
  simp only
  rw [cntR_on _ _ (by rw [List.length_append, l2]; omega)]
  simp only [Int.toNat_natCast]
  rw [rdr_ix.its_all]
  simp only
  rw [takeR_on 1 _ _ rfl]
  simp only
  rw [cntR_on _ _ (by rw [fm_map]; simp)]
  simp only [Int.toNat_natCast]
  rw [rdr_num.its_all]
  rfl
end Go.Proofs.YtacbhkmkknicoaaDoor
