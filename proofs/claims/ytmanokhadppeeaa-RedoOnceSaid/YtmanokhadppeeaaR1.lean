/- redo: Redo. (By mkR1.py.) -/
import Derived.Test.YtmanokhadppeeaaU1
import Derived.Maps.OwnSet
import Derived.Maps.Views
namespace Go.Proofs.Ytmanokhadppeeaa
open Go.RowKit Go.Maps
set_option linter.unusedSimpArgs false
set_option linter.unusedVariables false
attribute [local go_sem] Rg.leads_value Rg.leads_skip Rg.leads_enter Rg.brings_value Rg.brings_skip Rg.brings_enter Rg.bringsG_value Rg.bringsG_enter
theorem ilaw : Keyed Try.prog 3 := int_keyed Try.underlying3
theorem izero (w : World) : (zeroValue 3).run Try.prog w = .ok (.int .i64 0) w := by kernel_rfl
def okI (a : Int) : Prop := (Lit.int .i64 a).wf = true
/-- the block of a map that holds f -/
structure Sn (w : World) (b n : Nat) (f : Int → Option Int) : Prop where
  ex : ∃ D : DataW Unit, w.ownsMap Try.prog 3 (plainElem Try.prog 3) b n D ∧ IsMap D ∧ ∀ p, okI p → has D (.int .i64 p) = (f p).isSome ∧ D.atKey (.int .i64 p) (.lit (.int .i64 0)) = .lit (.int .i64 ((f p).getD 0))
theorem Sn.made (w : World) : Sn (w.alloc (.map #[] 0)) w.heap.size 0 (fun _ => none) := ⟨.map [], World.ownsMap_made _ _ _ _, ⟨[], rfl⟩, fun p hp => ⟨rfl, rfl⟩⟩
def upI (f : Int → Option Int) (p n : Int) : Int → Option Int := fun q => if q = p then some n else f q
theorem okKey {p : Int} (h : okI p) : WideAt.IsKeyLit (.int .i64 p) := by simp [WideAt.IsKeyLit]
theorem putOk {D : DataW Unit} {f : Int → Option Int} (hD : IsMap D) (h : ∀ p, okI p → has D (.int .i64 p) = (f p).isSome ∧ D.atKey (.int .i64 p) (.lit (.int .i64 0)) = .lit (.int .i64 ((f p).getD 0))) {p n : Int} (hp : okI p) :
    IsMap (D.put (.int .i64 p) (.lit (.int .i64 n))) ∧ ∀ q, okI q → has (D.put (.int .i64 p) (.lit (.int .i64 n))) (.int .i64 q) = (upI f p n q).isSome ∧ (D.put (.int .i64 p) (.lit (.int .i64 n))).atKey (.int .i64 q) (.lit (.int .i64 0)) = .lit (.int .i64 ((upI f p n q).getD 0)) := by
  refine ⟨hD.put _ _, fun q hq => ?_⟩
  unfold upI
  by_cases e : q = p
  · subst e
    rw [if_pos rfl, has_put_same hD (okKey hp), atKey_put_same hD (okKey hp)]
    exact ⟨rfl, rfl⟩
  · have ne : (Lit.int .i64 q) ≠ .int .i64 p := fun h => e (by cases h; rfl)
    rw [if_neg e, has_put_other ne, atKey_put_other ne]
    exact h q hq
def fromI (ds : List Dy) (n : Int) : Int := ds.foldl (fun a d => min a d.lsn) n
/-- what Redo knows on its way -/
structure Rs where
  f : Int → Option Int
  out : List Int
def skipR (ds : List Dy) (from' : Int) (x : Ln) : Bool :=
  !chB x.kind || decide (x.lsn < from') || decide (idxB (fun d : Dy => d.page == x.page) ds 0 < 0) || (match ds[(idxB (fun d : Dy => d.page == x.page) ds 0).toNat]? with | none => false | some d => decide (x.lsn < d.lsn))
def stepR (ds : List Dy) (from' : Int) (g : Int → Int) (s : Rs) (x : Ln) : Rs :=
  if skipR ds from' x = true then s else
    let n := match s.f x.page with | some v => v | none => g x.page
    if n < x.lsn then ⟨upI s.f x.page x.lsn, s.out ++ [x.lsn]⟩ else ⟨upI s.f x.page n, s.out⟩
def redoR (l : List Ln) (ds : List Dy) (g : Int → Int) : List Int :=
  match ds with
  | [] => []
  | d :: r => (l.foldl (stepR (d :: r) (fromI (d :: r) d.lsn) g) ⟨fun _ => none, []⟩).out

def iF (x : Int) : List Value := [.int .i64 x]
theorem iE : Enc iF 1 := ⟨fun _ => rfl, fun x u hu => by simp [iF] at hu; subst hu; rfl, by omega⟩
abbrev IAt := AtF iF 1
theorem i_info : (Try.prog.info? 3).map (fun i => (i.zero, i.size, i.bytes)) = some (some (.int .i64 0), 1, 8) := by kernel_rfl
theorem i_get {w : World} {oa : Option Addr} {l : List Int} (h : IAt w oa l) (k : Nat) (hk : k < l.length) : ∃ b off, oa = some ⟨b, off, none⟩ ∧ w.cell? ⟨b, off + k, none⟩ = some (.int .i64 l[k]) := by
  obtain ⟨b, off, e, _, hc⟩ := h.get k hk
  exact ⟨b, off, e, by simpa using hc 0 _ rfl⟩
theorem iclip (oa : Option Addr) (n c : Nat) (w : World) (hn : n ≤ c) : Calls Try.prog 34 #[.slice oa n c] w fun e w' => e = .returned (.slice oa n n) ∧ w' = w := by
  go_enter Try.func34, Try.ntmps34
  go_wp2
  go_ret
  exact ⟨rfl, rfl⟩
/-- what a page's LSN is, of the list that was handed in -/
def lsnI (ps : List Int) (p : Int) : Int := if p < 0 then 0 else (ps[p.toNat]?).getD 0
set_option maxRecDepth 100000 in
theorem lsns_any (oa : Option Addr) (c : Nat) (ps : List Int) (gp : Nat) (p : Int) (w : World) (hl : ps.length ≤ 1000000) (hp : IAt w oa ps) (h1 : w.cell? ⟨gp, 0, none⟩ = some (.slice oa ps.length c)) :
    Calls Try.prog 35 #[.int .i64 p, .pointer (some ⟨gp, 0, none⟩)] w fun e w' => e = .returned (.int .i64 (lsnI ps p)) ∧ Gr w w' := by
  have HP := hid hp
  clear hp
  have zg := lt_of_cell h1
  by_cases h0 : p < 0
  · have g0 : decide (p < 0) = true := by simpa using h0
    have HR : Hid (lsnI ps p = 0) := hid (by unfold lsnI; rw [if_pos h0])
    clear h0
    go_enter Try.func35, Try.ntmps35
    go_wp2
    go_ret
    exact ⟨by rw [HR.out]; rfl, Gr.refl _⟩
  · have g0 : decide (p < 0) = false := by simpa using h0
    obtain ⟨k, rfl⟩ : ∃ k : Nat, p = (k : Int) := ⟨p.toNat, by omega⟩
    by_cases h2 : (ps.length : Int) ≤ (k : Int)
    · have g2 : decide ((ps.length : Int) ≤ (k : Int)) = true := by simpa using h2
      have HR : Hid (lsnI ps k = 0) := hid (by unfold lsnI; rw [if_neg h0, Int.toNat_natCast, List.getElem?_eq_none (by omega)]; rfl)
      have hle : ps.length ≤ k := by omega
      clear h0 h2
      go_enter Try.func35, Try.ntmps35
      go_wp2
      go_ret
      exact ⟨by rw [HR.out]; rfl, Gr.refl _⟩
    · have g2 : decide ((ps.length : Int) ≤ (k : Int)) = false := by simpa using h2
      have hk : k < ps.length := by omega
      obtain ⟨b, off, rfl, c0⟩ := i_get HP.out k hk
      have HR : Hid (lsnI ps k = ps[k]) := hid (by unfold lsnI; rw [if_neg h0, Int.toNat_natCast, List.getElem?_eq_getElem hk]; rfl)
      have gk2 : (k : Int) < (ps.length : Int) := by omega
      have gk3 : (0 : Int) ≤ (k : Int) := by omega
      have hnle : ¬ ps.length ≤ k := by omega
      generalize ps[k] = v at *
      clear h0 h2
      go_enter Try.func35, Try.ntmps35
      go_wp2
      go_ret
      exact ⟨by rw [HR.out]; rfl, Gr.refl _⟩
end Go.Proofs.Ytmanokhadppeeaa
