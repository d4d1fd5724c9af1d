/- plain: what is written is read again. -/
import Derived.Test.YthmihhjpilpcpaaB1
namespace Go.Proofs.Ythmihhjpilpcpaa
open Lx
theorem white_facts (w : UInt8) (h : whiteB w = true) : w.toNat ≠ 39 ∧ innerB w = false ∧ digitB w = false ∧ letterB w = false ∧ w.toNat ≠ 45 ∧ ∀ c : UInt8, twoSign c w = false := by
  have h' : w.toNat = 32 ∨ w.toNat = 9 ∨ w.toNat = 10 ∨ w.toNat = 13 := by simp [whiteB] at h; omega
  have hl : letterB w = false := by rw [← Bool.not_eq_true]; simp [letterB]; omega
  have hd : digitB w = false := by rw [← Bool.not_eq_true]; simp [digitB]; omega
  refine ⟨by omega, by simp [innerB, hl, hd], hd, hl, by omega, fun c => ?_⟩
  rw [← Bool.not_eq_true]; simp [twoSign]; omega
theorem letter_not (c : UInt8) (h : letterB c = true) : whiteB c = false ∧ c.toNat ≠ 45 := by
  refine ⟨?_, ?_⟩
  · rw [← Bool.not_eq_true]; simp [letterB] at h; simp [whiteB]; omega
  · simp [letterB] at h; omega
theorem digit_not (c : UInt8) (h : digitB c = true) : whiteB c = false ∧ c.toNat ≠ 45 ∧ letterB c = false := by
  simp [digitB] at h
  refine ⟨?_, by omega, ?_⟩
  · rw [← Bool.not_eq_true]; simp [whiteB]; omega
  · rw [← Bool.not_eq_true]; simp [letterB]; omega
theorem one_not (c : UInt8) (h : oneSign c = true) : whiteB c = false ∧ letterB c = false ∧ digitB c = false ∧ c.toNat ≠ 39 := by
  have h' : c.toNat = 40 ∨ c.toNat = 41 ∨ c.toNat = 44 ∨ c.toNat = 46 ∨ c.toNat = 42 ∨ c.toNat = 43 ∨ c.toNat = 45 ∨ c.toNat = 47 ∨ c.toNat = 37 ∨ c.toNat = 61 ∨ c.toNat = 60 ∨ c.toNat = 62 ∨ c.toNat = 59 := by
    simp only [oneSign, List.contains_eq_mem, decide_eq_true_eq, List.mem_cons, List.not_mem_nil, or_false] at h
    exact h
  refine ⟨?_, ?_, ?_, by omega⟩
  · rw [← Bool.not_eq_true]; simp [whiteB]; omega
  · rw [← Bool.not_eq_true]; simp [letterB]; omega
  · rw [← Bool.not_eq_true]; simp [digitB]; omega
theorem two_not (c d : UInt8) (h : twoSign c d = true) : whiteB c = false ∧ letterB c = false ∧ digitB c = false ∧ c.toNat ≠ 39 ∧ c.toNat ≠ 45 := by
  have h' : c.toNat = 60 ∨ c.toNat = 62 ∨ c.toNat = 124 := by simp [twoSign] at h; omega
  refine ⟨?_, ?_, ?_, by omega, by omega⟩
  · rw [← Bool.not_eq_true]; simp [whiteB]; omega
  · rw [← Bool.not_eq_true]; simp [letterB]; omega
  · rw [← Bool.not_eq_true]; simp [digitB]; omega
theorem no_blank (c : UInt8) (r : Bytes) (hw : whiteB c = false) (hm : c.toNat ≠ 45 ∨ ∃ d q, r = d :: q ∧ d.toNat ≠ 45) : blank1 (c :: r) = 0 := by
  have hr : remarkB (c :: r) = false := by
    cases r with
    | nil => rfl
    | cons d q =>
      rcases hm with h | ⟨d', q', e, h⟩
      · simp [remarkB, h]
      · injection e with e1 _; subst e1; simp [remarkB, h]
  simp [blank1, hw, hr]
/-- a token that is written and followed by white is read as itself -/
theorem oneTok_told (t : Tk) (h : TokOK t) (w : UInt8) (rest : Bytes) (hw : whiteB w = true) :
    oneTok (toldL t ++ w :: rest) = some (t, (toldL t).length) ∧ blank1 (toldL t ++ w :: rest) = 0 ∧ 1 ≤ (toldL t).length := by
  obtain ⟨w1, w2, w3, w4, w5, w6⟩ := white_facts w hw
  cases h with
  | word c r h1 h2 h3 =>
    have hc := letter_not c h1
    have htl : toldL ⟨1, c :: r, 0⟩ = c :: r := rfl
    rw [htl]
    have hrun : runL innerB (c :: r ++ w :: rest) = (c :: r).length := runL_app innerB (c :: r) (w :: rest) (fun d hd => (h2 d hd).1) (by simp [runL, w2])
    refine ⟨?_, no_blank c _ hc.1 (.inl hc.2), by simp⟩
    show (if letterB c then wordL (c :: r ++ w :: rest) else _) = _
    rw [h1, if_pos rfl]
    unfold wordL
    dsimp only
    rw [hrun, if_pos (by simpa using h3), List.take_left]
    have hm : (c :: r).map low = c :: r := by
      conv => rhs; rw [← List.map_id (c :: r)]
      exact List.map_congr_left (fun d hd => (h2 d hd).2)
    rw [hm]
  | number n hn =>
    have htl : toldL ⟨2, [], n⟩ = digs n := rfl
    rw [htl]
    obtain ⟨c, r, hcr⟩ := digsF_cons 20 n
    have hall := digsF_all 20 n
    have hval := digsF_val 20 n (by omega)
    have hlen := digsF_len 20 19 n (by omega) (by omega)
    have hrun : runL digitB (digsF 20 n ++ w :: rest) = (digsF 20 n).length := runL_app digitB _ (w :: rest) hall (by simp [runL, w3])
    have hcd := hall c (by rw [hcr]; simp)
    have hc := digit_not c hcd
    unfold digs
    refine ⟨?_, ?_, by rw [hcr]; simp⟩
    · have hnum : numberL (digsF 20 n ++ w :: rest) = some (⟨2, [], n⟩, (digsF 20 n).length) := by
        unfold numberL
        dsimp only
        rw [hrun, List.drop_left, List.take_left, hval, if_pos ⟨hlen, by simp [startsLetter, w4], hn⟩]
      rw [← hnum, hcr]
      show (if letterB c then _ else if digitB c then _ else _) = _
      rw [hc.2.2, hcd]; rfl
    · rw [hcr]; exact no_blank c _ hc.1 (.inl hc.2.1)
  | text x =>
    have htl : toldL ⟨3, x, 0⟩ = 39 :: (dbl x ++ [39]) := rfl
    rw [htl]
    have hq := quoteL_dbl x w rest w1
    have e : 39 :: (dbl x ++ [39]) ++ w :: rest = 39 :: (dbl x ++ 39 :: w :: rest) := by simp
    rw [e]
    refine ⟨?_, no_blank 39 _ rfl (.inl (by decide)), by simp⟩
    show textL (dbl x ++ 39 :: w :: rest) = _
    unfold textL
    rw [hq]
    simp
  | two c d h =>
    have hc := two_not c d h
    have htl : toldL ⟨4, [c, d], 0⟩ = [c, d] := rfl
    rw [htl]
    refine ⟨?_, no_blank c _ hc.1 (.inl hc.2.2.2.2), by simp⟩
    show (if letterB c then _ else if digitB c then _ else if c.toNat = 39 then _ else signL (c :: d :: w :: rest)) = _
    rw [hc.2.1, hc.2.2.1, if_neg hc.2.2.2.1]
    simp [signL, h]
  | one c h =>
    have hc := one_not c h
    have htl : toldL ⟨4, [c], 0⟩ = [c] := rfl
    rw [htl]
    refine ⟨?_, no_blank c _ hc.1 (.inr ⟨w, rest, rfl, w5⟩), by simp⟩
    show (if letterB c then _ else if digitB c then _ else if c.toNat = 39 then _ else signL (c :: w :: rest)) = _
    rw [hc.2.1, hc.2.2.1, if_neg hc.2.2.2]
    simp [signL, h, w6 c]
/-- positions grow -/
def Grow : Nat → List Tok → Prop
  | _, [] => True
  | p, t :: r => p ≤ t.pos ∧ Grow (t.pos + 1) r
theorem Grow.mono {p q : Nat} {l : List Tok} (h : Grow p l) (hq : q ≤ p) : Grow q l := by
  cases l with
  | nil => trivial
  | cons t r => exact ⟨Nat.le_trans hq h.1, h.2⟩
theorem oneTok_pos (r : Bytes) (t : Tk) (n : Nat) (h : oneTok r = some (t, n)) : 1 ≤ n := by
  match r, h with
  | [], h => cases h
  | c :: r, h =>
    simp only [oneTok] at h
    split at h
    · rename_i hl
      unfold wordL at h
      dsimp only at h
      split at h
      · injection h with h
        injection h with _ h
        rw [← h]; simp [runL, innerB, hl]
      · cases h
    · split at h
      · rename_i hd
        unfold numberL at h
        dsimp only at h
        split at h
        · injection h with h
          injection h with _ h
          rw [← h]; simp [runL, hd]
        · cases h
      · split at h
        · obtain ⟨y, hy, he⟩ := Option.map_eq_some_iff.1 h
          injection he with _ he
          omega
        · match r, h with
          | [], h => simp [signL] at h; omega
          | d :: r, h =>
            simp only [signL] at h
            split at h
            · injection h with h; injection h with _ h; omega
            · split at h
              · injection h with h; injection h with _ h; omega
              · cases h
theorem lexN_good (s : Bytes) : ∀ f pos acc l, lexN f s pos acc = .good l → ∃ ts p, l = acc ++ ts ++ [⟨⟨5, [], 0⟩, p⟩] ∧ (∀ t ∈ ts, TokOK t.tk) ∧ Grow pos ts := by
  intro f
  induction f with
  | zero => intro pos acc l h; cases h
  | succ f ih =>
    intro pos acc l h
    rw [lexN] at h
    split at h
    · injection h with h
      exact ⟨[], pos, by rw [← h]; simp, by simp, trivial⟩
    · split at h
      · obtain ⟨ts, p, h1, h2, h3⟩ := ih _ _ _ h
        exact ⟨ts, p, h1, h2, h3.mono (by omega)⟩
      · split at h
        · cases h
        · rename_i t n ho
          obtain ⟨ts, p, h1, h2, h3⟩ := ih _ _ _ h
          have hn := oneTok_pos _ t n ho
          refine ⟨⟨t, pos⟩ :: ts, p, by rw [h1]; simp, ?_, Nat.le_refl _, h3.mono (by show pos + 1 ≤ pos + n; omega)⟩
          intro x hx
          rcases List.mem_cons.1 hx with rfl | hx
          · exact oneTok_ok _ t n ho
          · exact h2 x hx
/-- a separator: white at its head, and gone over whole -/
def SepOK (sep : Bytes) : Prop := (∃ w r, sep = w :: r ∧ whiteB w = true) ∧ ∀ pre rest acc, Came (pre ++ (sep ++ rest)) pre.length acc → Came (pre ++ (sep ++ rest)) (pre.length + sep.length) acc
theorem drop_pre (pre r : Bytes) : (pre ++ r).drop pre.length = r := List.drop_left
theorem sep_white (w : UInt8) (sep : Bytes) (hw : whiteB w = true) (h : sep = [] ∨ SepOK sep) : SepOK (w :: sep) := by
  refine ⟨⟨w, sep, rfl, hw⟩, fun pre rest acc hc => ?_⟩
  have h1 := hc.skip (by simp) 1 (by rw [drop_pre]; simp [blank1, hw]) (Nat.le_refl 1)
  have e : pre ++ (w :: sep ++ rest) = (pre ++ [w]) ++ (sep ++ rest) := by simp
  rw [e] at h1 ⊢
  have hl : (pre ++ [w]).length = pre.length + 1 := by simp
  rcases h with rfl | h
  · simpa using h1
  · have := h.2 (pre ++ [w]) rest acc (by rw [hl]; exact h1)
    rw [hl] at this
    rw [show pre.length + (w :: sep).length = pre.length + 1 + sep.length from by simp; omega]
    exact this
theorem sep_remark : SepOK [32, 45, 45, 32, 97, 32, 39, 98, 10] := by
  refine ⟨⟨32, _, rfl, rfl⟩, fun pre rest acc hc => ?_⟩
  have h1 := hc.skip (by simp) 1 (by rw [drop_pre]; rfl) (Nat.le_refl 1)
  have e : pre ++ ([32, 45, 45, 32, 97, 32, 39, 98, 10] ++ rest) = (pre ++ [32]) ++ ([45, 45, 32, 97, 32, 39, 98, 10] ++ rest) := by simp
  rw [e] at h1 ⊢
  have hl : (pre ++ [32]).length = pre.length + 1 := by simp
  rw [← hl] at h1
  have h2 := h1.skip (by simp) 7 (by rw [drop_pre]; rfl) (by omega)
  have e2 : (pre ++ [32]) ++ ([45, 45, 32, 97, 32, 39, 98, 10] ++ rest) = (pre ++ [32, 45, 45, 32, 97, 32, 39, 98]) ++ ([10] ++ rest) := by simp
  rw [e2] at h2 ⊢
  have hl2 : (pre ++ [32, 45, 45, 32, 97, 32, 39, 98]).length = pre.length + 8 := by simp
  have h2' : Came (pre ++ [32, 45, 45, 32, 97, 32, 39, 98] ++ ([10] ++ rest)) (pre ++ [32, 45, 45, 32, 97, 32, 39, 98]).length acc := by
    rw [hl2]; rw [hl] at h2; exact h2
  have h3 := h2'.skip (by simp) 1 (by rw [drop_pre]; rfl) (Nat.le_refl 1)
  rw [hl2] at h3
  exact h3
def seps : List Bytes := [[32], [9, 10], [32, 45, 45, 32, 97, 32, 39, 98, 10], [13, 10, 32]]
theorem seps_ok : ∀ s ∈ seps, SepOK s := by
  intro s hs
  simp only [seps, List.mem_cons, List.not_mem_nil, or_false] at hs
  rcases hs with rfl | rfl | rfl | rfl
  · exact sep_white 32 [] rfl (.inl rfl)
  · exact sep_white 9 [10] rfl (.inr (sep_white 10 [] rfl (.inl rfl)))
  · exact sep_remark
  · exact sep_white 13 [10, 32] rfl (.inr (sep_white 10 [32] rfl (.inr (sep_white 32 [] rfl (.inl rfl)))))
def written (sep : Bytes) (ts : List Tok) : Bytes := ts.flatMap fun t => toldL t.tk ++ sep
/-- the tokens of what is written, with their new places -/
def placed (sep : Bytes) : Nat → List Tok → List Tok
  | _, [] => []
  | p, t :: r => ⟨t.tk, p⟩ :: placed sep (p + (toldL t.tk).length + sep.length) r
theorem written_read (sep : Bytes) (hs : SepOK sep) (ts : List Tok) : ∀ (pre : Bytes) (acc : List Tok), (∀ t ∈ ts, TokOK t.tk) → Came (pre ++ written sep ts) pre.length acc →
    Came (pre ++ written sep ts) (pre ++ written sep ts).length (acc ++ placed sep pre.length ts) := by
  induction ts with
  | nil => intro pre acc _ hc; simpa [written, placed] using hc
  | cons t r ih =>
    intro pre acc hok hc
    obtain ⟨w, sr, rfl, hw⟩ := hs.1
    have ht := oneTok_told t.tk (hok t (by simp)) w (sr ++ written (w :: sr) r) hw
    have e0 : pre ++ written (w :: sr) (t :: r) = pre ++ (toldL t.tk ++ w :: (sr ++ written (w :: sr) r)) := by simp [written]
    rw [e0] at hc ⊢
    have h1 := hc.tok (by simp; omega) (by rw [drop_pre]; exact ht.2.1) t.tk _ (by rw [drop_pre]; exact ht.1) ht.2.2
    have e1 : pre ++ (toldL t.tk ++ w :: (sr ++ written (w :: sr) r)) = (pre ++ toldL t.tk) ++ (w :: sr ++ written (w :: sr) r) := by simp
    rw [e1] at h1 ⊢
    rw [← List.length_append] at h1
    have h2 := hs.2 (pre ++ toldL t.tk) (written (w :: sr) r) _ h1
    have e2 : (pre ++ toldL t.tk) ++ (w :: sr ++ written (w :: sr) r) = (pre ++ toldL t.tk ++ w :: sr) ++ written (w :: sr) r := by simp
    rw [e2] at h2 ⊢
    rw [← List.length_append] at h2
    have h3 := ih (pre ++ toldL t.tk ++ w :: sr) _ (fun x hx => hok x (by simp [hx])) h2
    have e3 : (acc ++ [⟨t.tk, pre.length⟩]) ++ placed (w :: sr) (pre ++ toldL t.tk ++ w :: sr).length r = acc ++ placed (w :: sr) pre.length (t :: r) := by
      simp [placed, Nat.add_assoc]
    rw [e3] at h3
    exact h3
theorem lex_written (sep : Bytes) (hs : SepOK sep) (ts : List Tok) (hok : ∀ t ∈ ts, TokOK t.tk) : lexAll (written sep ts) = .good (placed sep 0 ts ++ [⟨⟨5, [], 0⟩, (written sep ts).length⟩]) := by
  have h := written_read sep hs ts [] [] hok ⟨_, rfl, by omega, by simp⟩
  simp only [List.nil_append] at h
  exact Came.done h
end Go.Proofs.Ythmihhjpilpcpaa
