/- Plain words for layer 18: what a statement's tokens are, over lists of bytes. No program in sight. -/
namespace Go.Proofs.Ythmihhjpilpcpaa
namespace Lx

abbrev Bytes := List UInt8

def letterB (c : UInt8) : Bool := (decide (65 ≤ c.toNat) && decide (c.toNat ≤ 90)) || (decide (97 ≤ c.toNat) && decide (c.toNat ≤ 122)) || c.toNat == 95
def digitB (c : UInt8) : Bool := decide (48 ≤ c.toNat) && decide (c.toNat ≤ 57)
def innerB (c : UInt8) : Bool := letterB c || digitB c
def whiteB (c : UInt8) : Bool := c.toNat == 32 || c.toNat == 9 || c.toNat == 10 || c.toNat == 13
def upperB (c : UInt8) : Bool := decide (65 ≤ c.toNat) && decide (c.toNat ≤ 90)
def low (c : UInt8) : UInt8 := if upperB c then c + 32 else c
def noLine (c : UInt8) : Bool := !(c.toNat == 10)

/-- how many bytes at the head are of a kind -/
def runL (p : UInt8 → Bool) : Bytes → Nat
  | [] => 0
  | c :: r => if p c then runL p r + 1 else 0

def dig (n : Nat) (c : UInt8) : Nat := 10 * n + (c.toNat - 48)
def valOf (n : Nat) (l : Bytes) : Nat := l.foldl dig n

/-- the text behind an opening mark, and how many bytes it takes with its closing mark -/
def quoteL : Bytes → Option (Bytes × Nat)
  | [] => none
  | c :: r =>
    if c.toNat = 39 then
      match r with
      | [] => some ([], 1)
      | d :: r' => if d.toNat = 39 then (quoteL r').map fun x => (39 :: x.1, x.2 + 2) else some ([], 1)
    else (quoteL r).map fun x => (c :: x.1, x.2 + 1)

def twoSign (c d : UInt8) : Bool :=
  (c.toNat == 60 && d.toNat == 62) || (c.toNat == 60 && d.toNat == 61) || (c.toNat == 62 && d.toNat == 61) || (c.toNat == 124 && d.toNat == 124)
def oneSign (c : UInt8) : Bool := ([40, 41, 44, 46, 42, 43, 45, 47, 37, 61, 60, 62, 59] : List Nat).contains c.toNat

structure Tk where
  kind : Nat
  text : Bytes
  num : Nat
  deriving DecidableEq

def signL : Bytes → Option (Tk × Nat)
  | [] => none
  | c :: r =>
    match r with
    | d :: _ => if twoSign c d then some (⟨4, [c, d], 0⟩, 2) else if oneSign c then some (⟨4, [c], 0⟩, 1) else none
    | [] => if oneSign c then some (⟨4, [c], 0⟩, 1) else none

def wordL (r : Bytes) : Option (Tk × Nat) :=
  let n := runL innerB r
  if n ≤ 32 then some (⟨1, (r.take n).map low, 0⟩, n) else none

def startsLetter : Bytes → Bool
  | [] => false
  | c :: _ => letterB c

def numberL (r : Bytes) : Option (Tk × Nat) :=
  let n := runL digitB r
  if n ≤ 19 ∧ startsLetter (r.drop n) = false ∧ valOf 0 (r.take n) < 9223372036854775808 then some (⟨2, [], valOf 0 (r.take n)⟩, n) else none

def textL (r : Bytes) : Option (Tk × Nat) := (quoteL r).map fun x => (⟨3, x.1, 0⟩, x.2 + 1)

/-- the token at the head of what is neither white nor a remark -/
def oneTok : Bytes → Option (Tk × Nat)
  | [] => none
  | c :: r =>
    if letterB c then wordL (c :: r)
    else if digitB c then numberL (c :: r)
    else if c.toNat = 39 then textL r
    else signL (c :: r)

def remarkB : Bytes → Bool
  | c :: d :: _ => c.toNat == 45 && d.toNat == 45
  | _ => false

/-- how much white and how many remarks stand at the head, one step of it; nought: none -/
def blank1 : Bytes → Nat
  | [] => 0
  | c :: r => if whiteB c then 1 else if remarkB (c :: r) then runL noLine (c :: r) else 0

structure Tok where
  tk : Tk
  pos : Nat
  deriving DecidableEq

inductive Res where
  | good (l : List Tok)
  | bad (pos : Nat)

/-- all tokens of what stands from a place on, behind those that are known; by fuel -/
def lexN : Nat → Bytes → Nat → List Tok → Res
  | 0, _, pos, _ => .bad pos
  | f + 1, s, pos, acc =>
    let r := s.drop pos
    if r = [] then .good (acc ++ [⟨⟨5, [], 0⟩, pos⟩])
    else if blank1 r ≠ 0 then lexN f s (pos + blank1 r) acc
    else match oneTok r with
      | none => .bad pos
      | some (t, n) => lexN f s (pos + n) (acc ++ [⟨t, pos⟩])

def lexAll (s : Bytes) : Res := lexN (s.length + 1) s 0 []

end Lx
theorem valOf_shift (l : List UInt8) : ∀ n, Lx.valOf n l = n * 10 ^ l.length + Lx.valOf 0 l := by
  induction l with
  | nil => intro n; simp [Lx.valOf]
  | cons c r ih =>
    intro n
    have e1 : Lx.valOf n (c :: r) = Lx.valOf (Lx.dig n c) r := rfl
    have e2 : Lx.valOf 0 (c :: r) = Lx.valOf (Lx.dig 0 c) r := rfl
    rw [e1, e2, ih, ih (Lx.dig 0 c), List.length_cons, Nat.pow_succ]
    unfold Lx.dig
    generalize 10 ^ r.length = p
    generalize c.toNat - 48 = d
    generalize Lx.valOf 0 r = v
    rw [Nat.mul_zero, Nat.zero_add, Nat.add_mul, Nat.mul_comm p 10, ← Nat.mul_assoc, Nat.mul_comm n 10, Nat.add_assoc]
theorem valOf_lt (l : List UInt8) (h : ∀ c ∈ l, Lx.digitB c = true) : Lx.valOf 0 l < 10 ^ l.length := by
  induction l with
  | nil => simp [Lx.valOf]
  | cons c r ih =>
    have e1 : Lx.valOf 0 (c :: r) = Lx.valOf (Lx.dig 0 c) r := rfl
    rw [e1]
    unfold Lx.dig
    have hc := h c (by simp)
    simp [Lx.digitB] at hc
    rw [valOf_shift, List.length_cons, Nat.pow_succ]
    have := ih (fun d hd => h d (by simp [hd]))
    have h9 : (10 * 0 + (c.toNat - 48)) * 10 ^ r.length ≤ 9 * 10 ^ r.length := Nat.mul_le_mul_right _ (by omega)
    generalize 10 ^ r.length = p at *
    omega
theorem valOf_snoc (l : List UInt8) (c : UInt8) : ∀ n, Lx.valOf n (l ++ [c]) = 10 * Lx.valOf n l + (c.toNat - 48) := by
  intro n
  unfold Lx.valOf
  rw [List.foldl_append]
  rfl
theorem runL_take (p : UInt8 → Bool) (l : List UInt8) : ∀ c ∈ l.take (Lx.runL p l), p c = true := by
  induction l with
  | nil => simp [Lx.runL]
  | cons c r ih =>
    simp only [Lx.runL]
    split
    · rename_i hc; intro d hd; simp at hd; rcases hd with rfl | hd
      · exact hc
      · exact ih d hd
    · simp
theorem runL_le (p : UInt8 → Bool) (l : List UInt8) : Lx.runL p l ≤ l.length := by
  induction l with
  | nil => simp [Lx.runL]
  | cons c r ih => simp only [Lx.runL]; split <;> simp <;> omega
theorem valOf_19 (l : List UInt8) (n k : Nat) (hn : n ≤ 19) (hk : k < n) (h : ∀ c ∈ l.take n, Lx.digitB c = true) : Lx.valOf 0 ((l.take n).take k) ≤ 999999999999999999 := by
  have h1 := valOf_lt ((l.take n).take k) (fun c hc => h c (List.mem_of_mem_take hc))
  have h2 : ((l.take n).take k).length ≤ 18 := by simp; omega
  have h3 : 10 ^ ((l.take n).take k).length ≤ 10 ^ 18 := Nat.pow_le_pow_right (by omega) h2
  have h4 : (10 : Nat) ^ 18 = 1000000000000000000 := by decide
  omega
end Go.Proofs.Ythmihhjpilpcpaa
