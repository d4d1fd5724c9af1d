/- redo: what a call of history gives, made ready for the laws; rows that stand while others turn. -/
import Derived.Test.YtmanokhadppeeaaH2
import Derived.Test.YtmanokhadppeeaaTw
namespace Go.Proofs.Ytmanokhadppeeaa
open Go.RowKit
set_option linter.unusedSimpArgs false
set_option linter.unusedVariables false
/-- a line whose bytes lie in blocks of their own -/
structure LnB (w : World) (x : Ln) : Prop where
  b : BOk w x.ob x.bs
  a : BOk w x.oa x.es
  t : x.ts = []
  d : x.ds = []
theorem LnB.ok {w : World} {x : Ln} (h : LnB w x) : LnOk w x := ⟨h.b.1, h.a.1, by rw [h.t]; exact .inl rfl, by rw [h.d]; exact .inl rfl⟩
theorem LnB.gr {w w' : World} {x : Ln} (h : LnB w x) (hg : Gr w w') : LnB w' x := ⟨h.b.gr hg, h.a.gr hg, h.t, h.d⟩
theorem LnB.gz {w w' : World} {x : Ln} {v : Value} {base e n m : Nat} {xs : List Value} (h : LnB w x) (hg : Gz v w w') (ho : w.ownsRow base e n v m xs) (he : 5 ≠ e) : LnB w' x := ⟨h.b.gz hg ho he, h.a.gz hg ho he, h.t, h.d⟩
theorem at_gz {α : Type} {f : α → List Value} {k : Nat} {w w' : World} {oa : Option Addr} {l : List α} {e e' : TypeId} {v : Value} {base n m : Nat} {xs : List Value} (h : AtF f k w oa l) (ht : ∀ g o q, oa = some ⟨g, o, q⟩ → Ty e w g) (hg : Gz v w w') (ho : w.ownsRow base e' n v m xs) (he : e ≠ e') :
    AtF f k w' oa l ∧ ∀ g o q, oa = some ⟨g, o, q⟩ → Ty e w' g := by
  refine ⟨?_, fun g o q e1 => (ht g o q e1).gz hg ((ht g o q e1).ne ho he)⟩
  rcases h with h | ⟨b, off, e1, hb, hr⟩
  · exact .inl h
  · have hne := (ht b off none e1).ne ho he
    exact .inr ⟨b, off, e1, Nat.lt_of_lt_of_le hb hg.size, fun i hi j u hu => hg.cell (hr i hi j u hu) (fun g' hv e2 => hne (by rw [hv, e2]))⟩
structure HNok (w w' : World) (o7 : Option Addr) (c7 : Nat) (L : List Ln) (R : Hs) : Prop where
  len : L.length ≤ 60
  own : w'.ownsRow w.heap.size 34 12 (.slice o7 L.length c7) L.length (cellsF nF L)
  b : ∀ x ∈ L, LnB w' x
  g : ∀ x ∈ L, LnG x
  lsn : ∀ i (h : i < L.length), L[i].lsn = 10 * ((i : Int) + 1)
  bl : ∀ x ∈ L, x.bs.length ≤ 1
  log : ∃ zs : List Az, L = zs.map Az.ln ∧ zs.map Az.c = R.log
  hi : HI R
  up : Gr w w'
theorem HNok.at' {w w' : World} {o7 : Option Addr} {c7 : Nat} {L : List Ln} {R : Hs} (h : HNok w w' o7 c7 L R) : LAt w' o7 L := by
  obtain ⟨oa, c, e, hat, _⟩ := own_at0 nE h.own
  cases e
  exact ⟨hat, fun x hx => (h.b x hx).ok⟩
theorem hist_call (os : Option Addr) (cs : Nat) (steps : List Sp) (w : World) (hl : steps.length ≤ 9223372036854775807) (hS : StAt w os steps) :
    Calls Try.prog 7 #[.slice os steps.length cs] w fun e w' => ∃ o7 c7 L, e = .returned (.slice o7 L.length c7) ∧ HNok w w' o7 c7 L (histF 0 h0 (steps.take 60)) := by
  refine (hist_any os cs steps w hl hS).mono ?_
  rintro e w' ⟨v, zs, rfl, hlog, h60, hrow, hok, hg⟩
  have hHI : HI (histF 0 h0 (steps.take 60)) := HI.fold _ _ _ HI.zero
  have eL : zs.length = (zs.map Az.ln).length := by simp
  rw [eL, cells_zF] at hrow
  obtain ⟨o7, c7, rfl, _, _⟩ := own_at0 nE hrow
  have e1 : zs.length = (histF 0 h0 (steps.take 60)).log.length := by rw [← hlog, List.length_map]
  refine ⟨o7, c7, zs.map Az.ln, rfl, by simpa using h60, hrow, fun x hx => ?_, fun x hx => ?_, fun i hi => ?_, fun x hx => ?_, ⟨zs, rfl, hlog⟩, hHI, hg⟩
  · obtain ⟨z, hz, rfl⟩ := List.mem_map.1 hx
    exact ⟨(hok z hz).1, (hok z hz).2, rfl, rfl⟩
  · obtain ⟨z, hz, rfl⟩ := List.mem_map.1 hx
    have := hHI.ok z.c (by rw [← hlog]; exact List.mem_map_of_mem hz)
    exact ⟨this.kind, this.txn, this.page, this.lsn⟩
  · have hi' : i < zs.length := by simpa using hi
    have := hHI.lsn i (by omega)
    rw [← this, List.getElem_map]
    show zs[i].c.lsn = _
    congr 1
    simp [← hlog]
  · obtain ⟨z, hz, rfl⟩ := List.mem_map.1 hx
    exact (hHI.ok z.c (by rw [← hlog]; exact List.mem_map_of_mem hz)).bl
theorem mu_bound : ∀ (lo : List Lo), (∀ x ∈ lo, x.next ≤ 600) → loMu lo ≤ lo.length * 601
  | [], _ => Nat.le_refl _
  | x :: r, h => by
    have ih := mu_bound r (fun y hy => h y (by simp [hy]))
    have hx := h x (by simp)
    simp only [loMu, List.map_cons, List.sum_cons, List.length_cons] at *
    omega
theorem loser_len : ∀ ts : List Tx, (loserR ts).length ≤ ts.length
  | ts => by have := (loser_sub ts).length_le; simpa using this
theorem ent_le {L : List Ln} {B : Int} (hl : ∀ x ∈ L, x.lsn ≤ B) (t : Int) : ∀ l s, entL L t = some (l, s) → l ≤ B := by
  have key : ∀ (L : List Ln) (e : Option (Int × Int)), (∀ x ∈ L, x.lsn ≤ B) → (∀ l s, e = some (l, s) → l ≤ B) → ∀ l s, L.foldl (entF t) e = some (l, s) → l ≤ B := by
    intro L
    induction L with
    | nil => intro e _ h; exact h
    | cons x r ih =>
      intro e hl h
      refine ih _ (fun y hy => hl y (by simp [hy])) ?_
      intro l s hh
      unfold entF at hh
      split at hh
      · have hx := hl x (by simp)
        unfold entS at hh
        split at hh
        · cases hh; exact hx
        · split at hh
          · cases hh; exact hx
          · split at hh
            · cases hh
            · cases hh; exact hx
      · exact h l s hh
  exact key L none hl (by intro l s h; cases h)
/-- how much there is to undo -/
theorem mu_small {L : List Ln} (hL : ∀ x ∈ L, GL x ∧ x.lsn ≤ 600) {ts : List Tx} (hts : ts.Perm (anR L).ts) : loMu (loserR ts) ≤ 2404 := by
  have hT := TI.all (fun x hx => (hL x hx).1)
  have hb : ∀ x ∈ loserR ts, x.next ≤ 600 := fun x hx => by
    obtain ⟨_, e, he, e1, e2⟩ := loser_next ts x hx
    have := look_mem hT.idn (hts.mem_iff.1 he)
    rw [hT.lk] at this
    have := ent_le (fun x hx => (hL x hx).2) _ _ _ this
    omega
  have h1 := mu_bound _ hb
  have h2 := loser_len ts
  have h3 := hts.length_eq
  have h4 := hT.tsl
  have h5 : (loserR ts).length ≤ 4 := by omega
  have := Nat.mul_le_mul_right 601 h5
  omega
theorem LnG.gl {x : Ln} (h : LnG x) : GL x := ⟨by rcases h.kind with e | e | e | e <;> omega, h.txn, h.page⟩
end Go.Proofs.Ytmanokhadppeeaa
