/- The told texts' sizes, and what the words of a written text are. -/
import Derived.Test.YthmihhjpilpcpaaT1
import Derived.Test.YthmihhjpilpcpaaB2
import Derived.Test.YthmihhjpilpcpaaX3
namespace Go.Proofs.Ythmihhjpilpcpaa
open Go.RowKit
set_option linter.unusedVariables false
theorem told_any (t : Lx.Tk) (h : Lx.TokOK t) (hx : t.text.length ≤ 4096) (p : Int) (w : World) :
    Calls Try.prog 11 #[.agg (tkCells t p)] w fun e w' => e = .returned (.string (bs (Lx.toldL t))) ∧ Below w.heap.size w w' := by
  cases h with
  | word c r h1 h2 h3 => exact told_plain 1 0 p (c :: r) w rfl rfl
  | number n hn => exact told_number n p [] w hn
  | text x => exact told_text p 0 x w hx
  | two c d h => exact told_plain 4 0 p [c, d] w rfl rfl
  | one c h => exact told_plain 4 0 p [c] w rfl rfl
theorem told_len (t : Lx.Tk) (h : Lx.TokOK t) (hx : t.text.length ≤ 4096) : (Lx.toldL t).length ≤ 8200 := by
  cases h with
  | word c r h1 h2 h3 => show (c :: r).length ≤ 8200; simp; omega
  | number n hn =>
    have := digsF_short 20 n
    show (Lx.digs n).length ≤ 8200
    unfold Lx.digs; omega
  | text x =>
    have := dbl_len x
    show (39 :: (Lx.dbl x ++ [39])).length ≤ 8200
    simp at hx ⊢; omega
  | two c d h => show [c, d].length ≤ 8200; simp
  | one c h => show [c].length ≤ 8200; simp
theorem quoteL_short : ∀ (r : List UInt8) (x : List UInt8 × Nat), Lx.quoteL r = some x → x.1.length ≤ r.length
  | [], x, h => by simp [Lx.quoteL] at h
  | [c], x, h => by
    simp only [Lx.quoteL] at h
    split at h
    · injection h with h; subst h; simp
    · simp at h
  | c :: d :: r, x, h => by
    have i1 := quoteL_short r
    have i2 := quoteL_short (d :: r)
    unfold Lx.quoteL at h
    split at h
    · dsimp only at h
      split at h
      · obtain ⟨y, hy, rfl⟩ := Option.map_eq_some_iff.1 h
        have := i1 y hy; simp; omega
      · injection h with h; subst h; simp
    · obtain ⟨y, hy, rfl⟩ := Option.map_eq_some_iff.1 h
      have := i2 y hy; simp at this ⊢; omega
theorem oneTok_short (r : List UInt8) (t : Lx.Tk) (n : Nat) (h : Lx.oneTok r = some (t, n)) : t.text.length ≤ r.length := by
  match r, h with
  | [], h => cases h
  | c :: r, h =>
    simp only [Lx.oneTok] at h
    split at h
    · unfold Lx.wordL at h
      dsimp only at h
      split at h
      · injection h with h
        injection h with h _
        rw [← h]; simp; omega
      · cases h
    · split at h
      · unfold Lx.numberL at h
        dsimp only at h
        split at h
        · injection h with h
          injection h with h _
          rw [← h]; simp
        · cases h
      · split at h
        · obtain ⟨y, hy, he⟩ := Option.map_eq_some_iff.1 h
          injection he with he _
          have := quoteL_short r y hy
          rw [← he]; simp; omega
        · match r, h with
          | [], h => simp [Lx.signL] at h; obtain ⟨_, h, _⟩ := h; rw [← h]; simp
          | d :: r, h =>
            simp only [Lx.signL] at h
            split at h
            · injection h with h; injection h with h _; rw [← h]; simp
            · split at h
              · injection h with h; injection h with h _; rw [← h]; simp
              · cases h
theorem lexN_short (s : List UInt8) : ∀ f pos acc l, Lx.lexN f s pos acc = .good l → (∀ t ∈ acc, t.tk.text.length ≤ s.length) → ∀ t ∈ l, t.tk.text.length ≤ s.length := by
  intro f
  induction f with
  | zero => intro pos acc l h; cases h
  | succ f ih =>
    intro pos acc l h ha
    rw [Lx.lexN] at h
    split at h
    · injection h with h
      intro t ht
      rw [← h, List.mem_append] at ht
      rcases ht with ht | ht
      · exact ha t ht
      · simp at ht; subst ht; simp
    · split at h
      · exact ih _ _ _ h ha
      · split at h
        · cases h
        · rename_i t n ho
          refine ih _ _ _ h (fun x hx => ?_)
          rw [List.mem_append] at hx
          rcases hx with hx | hx
          · exact ha x hx
          · simp at hx; subst hx
            have := oneTok_short _ t n ho
            simp at this
            show t.text.length ≤ s.length
            omega
/-- what a good reading is -/
theorem lexAll_good (s : List UInt8) (l : List Lx.Tok) (h : Lx.lexAll s = .good l) : ∃ ts p, l = ts ++ [⟨⟨5, [], 0⟩, p⟩] ∧ (∀ t ∈ ts, Lx.TokOK t.tk ∧ t.tk.text.length ≤ s.length) ∧ Grow 0 ts ∧ l.length ≤ s.length + 1 := by
  obtain ⟨ts, p, h1, h2, h3⟩ := lexN_good s _ _ _ _ h
  have h4 := lexN_short s _ _ _ _ h (by simp)
  simp only [List.nil_append] at h1
  exact ⟨ts, p, h1, fun t ht => ⟨h2 t ht, h4 t (by rw [h1]; simp [ht])⟩, h3, lexAll_len s l h⟩
theorem written_len (sep : List UInt8) (hs : sep.length ≤ 9) (ts : List Lx.Tok) (h : ∀ t ∈ ts, Lx.TokOK t.tk ∧ t.tk.text.length ≤ 4096) : (written sep ts).length ≤ ts.length * 8300 := by
  induction ts with
  | nil => simp [written]
  | cons t r ih =>
    have ht := h t (by simp)
    have h1 := told_len t.tk ht.1 ht.2
    have h2 := ih (fun x hx => h x (by simp [hx]))
    have e : written sep (t :: r) = (Lx.toldL t.tk ++ sep) ++ written sep r := by simp [written]
    rw [e]; simp; omega
theorem written_snoc (sep : List UInt8) (ts : List Lx.Tok) (t : Lx.Tok) : written sep (ts ++ [t]) = written sep ts ++ Lx.toldL t.tk ++ sep := by simp [written]
theorem placed_len (sep : List UInt8) (ts : List Lx.Tok) : ∀ p, (placed sep p ts).length = ts.length := by
  induction ts with
  | nil => intro p; rfl
  | cons t r ih => intro p; simp [placed, ih]
theorem placed_tk (sep : List UInt8) (ts : List Lx.Tok) : ∀ p i (h : i < ts.length) (h' : i < (placed sep p ts).length), (placed sep p ts)[i].tk = ts[i].tk := by
  induction ts with
  | nil => intro p i h; simp at h
  | cons t r ih =>
    intro p i h h'
    cases i with
    | zero => rfl
    | succ i => exact ih _ i (by simpa using h) (by simpa [placed] using h')
theorem Grow.lt {p : Nat} {ts : List Lx.Tok} (h : Grow p ts) : ∀ i (hi : i + 1 < ts.length), ts[i].pos < ts[i + 1].pos := by
  induction ts generalizing p with
  | nil => intro i hi; simp at hi
  | cons t r ih =>
    intro i hi
    cases i with
    | zero =>
      cases r with
      | nil => simp at hi
      | cons t2 r2 => exact h.2.1
    | succ i => exact ih h.2 i (by simpa using hi)
end Go.Proofs.Ythmihhjpilpcpaa
