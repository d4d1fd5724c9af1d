/- row: what the reference reads is as long as what it was read from; bytes as strings; plain. -/
import Derived.Test.YtacbhkmkknicoaaDoorPr2
namespace Go.Proofs.YtacbhkmkknicoaaDoor
open Go.RowKit
set_option linter.unusedSimpArgs false
set_option linter.unusedVariables false
theorem join_app (a b : List V) : joinV (a ++ b) = joinV a ++ joinV b := by simp [joinV]
theorem join_cons (v : V) (l : List V) : joinV (v :: l) = encV v ++ joinV l := by simp [joinV]
theorem enc_num (n : Int) : (encV (numV n)).length = 9 := rfl
/-- what the reference has read whole -/
theorem ref_len {l : List V} {b : Bool} {U : Tb} (hl : l.length ≤ 1000000000) (hc : ∀ v ∈ l, Cl v) (h : RefRd (l, b) U ([], false)) : (joinV (schL U)).length = (joinV l).length ∧ (∀ v ∈ schL U, Cl v) ∧ U.cs.length ≤ l.length ∧ U.xs.length ≤ l.length ∧ U.rs.length ≤ l.length := by
  unfold RefRd at h
  simp only at h
  have c1 := (takeR_cl 2 l b hc).1
  have l1 := takeR_len 2 l b
  have o1 := @takeR_ok 2 l b
  have v1 := @cl_2 _ (takeR_cl 2 l b hc).2
  generalize takeR 2 l b = a at *
  obtain ⟨av, al, ab⟩ := a
  simp only at *
  obtain ⟨m1, m2, m3, h1, h2, cs, xs, hd, k, r1, r2, r3, r4, h3, r5, r6⟩ := h
  have c2 := (rdr_num.cl al ab c1).1
  have l2 := rdr_num.len (al, ab)
  have o2 := rdr_num.use al ab
  have k2 := rdr_num.back al ab c1
  generalize numR (al, ab) = n at *
  obtain ⟨nv, nl, nb⟩ := n
  simp only at *
  have c3 := rdr_col.its_cl (nl, nb) c2 m1
  have l3 := rdr_col.its_shorter (nl, nb) m1
  have o3 := @its_bd _ _ _ _ _ rdr_col (by omega) (nl, nb) m1
  have u3 := rdr_col.its_use (nl, nb) m1
  have n3 := its_len colR (nl, nb) m1
  have k3 := rdr_col.its_back (nl, nb) c2 m1
  rw [r1] at c3 l3 o3 u3 n3 h2 k3
  obtain ⟨cs, cl, cb⟩ := cs
  simp only at *
  have c4 := (rdr_num.cl cl cb c3.1).1
  have l4 := rdr_num.len (cl, cb)
  have o4 := rdr_num.use cl cb
  have k4 := rdr_num.back cl cb c3.1
  generalize numR (cl, cb) = m at *
  obtain ⟨mv, ml, mb⟩ := m
  simp only at *
  have c5 := rdr_ix.its_cl (ml, mb) c4 m2
  have l5 := rdr_ix.its_shorter (ml, mb) m2
  have o5 := @its_bd _ _ _ _ _ rdr_ix (by omega) (ml, mb) m2
  have u5 := rdr_ix.its_use (ml, mb) m2
  have n5 := its_len ixR (ml, mb) m2
  have k5 := rdr_ix.its_back (ml, mb) c4 m2
  rw [r2] at c5 l5 o5 u5 n5 k5
  obtain ⟨xs, xl, xb⟩ := xs
  simp only at *
  have c6 := rdr_num.cl xl xb c5.1
  have l6 := rdr_num.len (xl, xb)
  have o6 := rdr_num.use xl xb
  have k6 := rdr_num.back xl xb c5.1
  rw [r3] at c6 l6 o6 k6
  obtain ⟨hv, hl', hb⟩ := hd
  simp only at *
  have c7 := (rdr_num.cl hl' hb c6.1).1
  have l7 := rdr_num.len (hl', hb)
  have o7 := rdr_num.use hl' hb
  have k7 := rdr_num.back hl' hb c6.1
  rw [r4] at c7 l7 o7 k7
  obtain ⟨kv, kl, kb⟩ := k
  simp only at *
  have c8 := rdr_num.its_cl (kl, kb) c7 m3
  have l8 := rdr_num.its_shorter (kl, kb) m3
  have o8 := @its_bd _ _ _ _ _ rdr_num (by omega) (kl, kb) m3
  have u8 := rdr_num.its_use (kl, kb) m3
  have n8 := its_len numR (kl, kb) m3
  have k8 := rdr_num.its_back (kl, kb) c7 m3
  rw [← r6] at c8 l8 o8 u8 k8
  have p8 : m3 ≤ kl.length := o8 rfl
  obtain ⟨hkb, _⟩ := u8 rfl
  subst hkb
  obtain ⟨hhb, _⟩ := o7 rfl
  subst hhb
  obtain ⟨hxb, _⟩ := o6 rfl
  subst hxb
  have p5 : m2 ≤ ml.length := o5 rfl
  obtain ⟨hmb, _⟩ := u5 rfl
  subst hmb
  obtain ⟨hcb, _⟩ := o4 rfl
  subst hcb
  have p3 : m1 ≤ nl.length := o3 rfl
  obtain ⟨hnb, _⟩ := u3 rfl
  subst hnb
  obtain ⟨hab, _⟩ := o2 rfl
  subst hab
  obtain ⟨hb0, e1, t1⟩ := o1 rfl
  have w1 := v1 t1
  have q1 : (its numR m3 (kl, false)).1.length ≤ kl.length := by omega
  refine ⟨?_, ?_, ?_, ?_, ?_⟩
  · have z2 := k2 rfl
    have z3 := k3 rfl
    have z4 := k4 rfl
    have z5 := k5 rfl
    have z6 := k6 rfl
    have z7 := k7 rfl
    have z8 := k8 rfl
    rw [r5]
    generalize its numR m3 (kl, false) = rr at *
    obtain ⟨rs, rq⟩ := rr
    simp only at z8
    rw [e1, z2, z3, z4, z5, z6, z7, z8, fm_map]
    show (joinV (schL (mkT av.s cs xs hv rs))).length = _
    rw [w1]
    simp only [schL, sch3, sch2, sch1, mkT, join_app, join_cons, List.length_append, List.cons_append, List.nil_append, enc_num, List.append_nil, textV]
    simp only [joinV, List.flatMap_nil, List.length_nil]
    omega
  · refine cl_sch (B := 1000000000) (by omega) ?_ ?_ ?_ ?_ ?_ ?_ ?_
    · rw [r5]; show cs.length ≤ _; omega
    · rw [r5]; show xs.length ≤ _; omega
    · rw [r5]; show (its numR m3 (kl, false)).1.length ≤ _; omega
    · rw [r5]; exact c3.2
    · rw [r5]; exact c5.2
    · rw [r5]; exact c6.2
    · rw [r5]; exact c8.2
  · rw [r5]; show cs.length ≤ _; omega
  · rw [r5]; show xs.length ≤ _; omega
  · rw [r5]; show (its numR m3 (kl, false)).1.length ≤ _; omega
theorem enc_byte {v : V} (h : Cl v) : byteI (encV v) := by
  rcases h with rfl | ⟨n, rfl, hn⟩ | ⟨s, rfl⟩ | ⟨b, rfl⟩
  · intro x hx
    simp [encV, nul] at hx
    omega
  · intro x hx
    have e : encV (numV n) = 1 :: be8 (n + 9223372036854775808) := rfl
    rw [e] at hx
    simp only [be8, List.mem_cons, List.not_mem_nil, or_false] at hx
    omega
  · intro x hx
    have e : encV (textV s) = 2 :: (esc s.data.toList ++ [0, 0]) := rfl
    rw [e] at hx
    rcases List.mem_cons.1 hx with rfl | hx
    · omega
    · rcases List.mem_append.1 hx with hx | hx
      · obtain ⟨y, hy, hxy⟩ := List.mem_flatMap.1 hx
        split at hxy
        · simp at hxy; omega
        · simp at hxy
          have := y.toNat_lt
          omega
      · simp at hx; omega
  · intro x hx
    cases b <;> simp [encV, boolV, trb] at hx <;> omega
theorem join_byte {l : List V} (h : ∀ v ∈ l, Cl v) : byteI (joinV l) := fun x hx => by
  obtain ⟨v, hv, hxv⟩ := List.mem_flatMap.1 hx
  exact enc_byte (h v hv) x hxv
theorem nums_of_str {l : List Int} (h : byteI l) : (strOfNums l).data.toList.map (fun b => (b.toNat : Int)) = l := by
  rw [strOfNums_data, List.map_map]
  conv => rhs; rw [← List.map_id l]
  refine List.map_congr_left (fun x hx => ?_)
  have := h x hx
  simp only [Function.comp, id]
  have : (UInt8.ofNat x.toNat).toNat = x.toNat := by simp; omega
  omega
theorem str_inj {a b : List Int} (ha : byteI a) (hb : byteI b) (h : (strOfNums a).data.toList = (strOfNums b).data.toList) : a = b := by
  rw [← nums_of_str ha, ← nums_of_str hb, h]
/-- all that Schema wants of a table read whole -/
theorem ref_fit {b : List Int} {l : List V} {U : Tb} (hb : byteI b) (hl : b.length ≤ 2000000) (hs : splitV b = some l) (h : RefRd (l, false) U ([], false)) :
    (joinV (schL U)).length ≤ 2000000 ∧ (∀ v ∈ schL U, VOk v) ∧ byteI (joinV (schL U)) ∧ U.cs.length ≤ 2000000 ∧ U.xs.length ≤ 2000000 ∧ U.rs.length ≤ 2000000 := by
  obtain ⟨hj, hc⟩ := splitV_back hb hs
  have hll := len_join l
  rw [hj] at hll
  obtain ⟨h1, h2, h3, h4, h5⟩ := ref_len (by omega) hc h
  rw [hj] at h1
  refine ⟨by omega, fun v hv => ?_, join_byte h2, by omega, by omega, by omega⟩
  have h6 := cl_text (h2 v hv)
  have h7 := join_mem hv
  exact ⟨h6.2, by omega⟩
def Rd3 (nm : ByteArray) (cs : List Col) (xs : List Ix) (hd : Int) (n : Int) (q : Sq) (U : Tb) (q' : Sq) : Prop := ∃ m3, Ends numR n q m3 ∧ U = mkT nm cs xs hd (its numR m3 q).1 ∧ q' = (its numR m3 q).2
def Rd2 (nm : ByteArray) (cs : List Col) (n : Int) (q : Sq) (U : Tb) (q' : Sq) : Prop := ∃ m2, Ends ixR n q m2 ∧ Rd3 nm cs (its ixR m2 q).1 (numR (its ixR m2 q).2).1 (numR (numR (its ixR m2 q).2).2).1 (numR (numR (its ixR m2 q).2).2).2 U q'
def Rd1 (nm : ByteArray) (n : Int) (q : Sq) (U : Tb) (q' : Sq) : Prop := ∃ m1, Ends colR n q m1 ∧ Rd2 nm (its colR m1 q).1 (numR (its colR m1 q).2).1 (numR (its colR m1 q).2).2 U q'
theorem rd_ref {q : Sq} {U : Tb} {q' : Sq} (h : Rd1 (takeR 2 q.1 q.2).1.s (numR (takeR 2 q.1 q.2).2).1 (numR (takeR 2 q.1 q.2).2).2 U q') : RefRd q U q' := by
  obtain ⟨m1, h1, m2, h2, m3, h3, rfl, rfl⟩ := h
  exact ⟨m1, m2, m3, h1, h2, _, _, _, _, rfl, rfl, rfl, rfl, h3, rfl, rfl⟩
/-- a loop of the reference's reader: k items are read -/
def LpRel {α : Type} (f : Sq → α × Sq) (q : Sq) (n : Int) (F : List α → Sq → World → Prop) (s : Value) (w : World) : Prop := ∃ k : Nat, s = .int .i64 (k : Int) ∧ k ≤ q.1.length + 1 ∧ (∀ j, j < k → (j : Int) < n ∧ (its f j q).2.2 = false) ∧ F (its f k q).1 (its f k q).2 w
end Go.Proofs.YtacbhkmkknicoaaDoor
