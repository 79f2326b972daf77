/-
  Plain mathematics of chapter 26: commands as lists of bytes. No program in sight.
-/
import Derived.WalkKit
set_option linter.unusedVariables false
namespace Go.Proofs.Ytcjahjhpbffcfaa

/-- A command. -/
structure C where
  k : Int
  a : Int
  b : Int
  c : Int
  s : List UInt8
  t : List UInt8
  deriving DecidableEq

/-- Reading. -/
def hd : List UInt8 → Int
  | [] => 0
  | c :: _ => (c.toNat : Int)
def pairV (s : List UInt8) : Int := hd s + 256 * hd s.tail
def pairR (s : List UInt8) : List UInt8 := s.tail.tail
def textN (s : List UInt8) : Nat := min (hd s).toNat s.tail.length
def textV (s : List UInt8) : List UInt8 := s.tail.take (textN s)
def textR (s : List UInt8) : List UInt8 := s.tail.drop (textN s)

inductive Part where
  | a | b | l | t | u
  deriving DecidableEq

def Part.run : Part → List UInt8 → C → List UInt8 × C
  | .a, s, c => (pairR s, { c with a := pairV s })
  | .b, s, c => (pairR s, { c with b := pairV s })
  | .l, s, c => (s.tail, { c with c := hd s })
  | .t, s, c => (textR s, { c with s := textV s })
  | .u, s, c => (textR s, { c with t := textV s })

def partsOf (k : Int) : List Part :=
  if k = 1 then [.a, .t]
  else if k = 2 ∨ k = 6 then [.a, .b]
  else if k = 3 then [.a, .b, .t]
  else if k = 7 ∨ k = 8 ∨ k = 9 then [.t]
  else if k = 10 then [.a, .b, .l]
  else if k = 11 then [.l, .b, .t]
  else if k = 12 then [.t, .u]
  else []

def runAll : List Part → List UInt8 → C → List UInt8 × C
  | [], s, c => (s, c)
  | p :: r, s, c => runAll r (p.run s c).1 (p.run s c).2

def one (s : List UInt8) : List UInt8 × C := runAll (partsOf (hd s)) s.tail ⟨hd s, 0, 0, 0, [], []⟩

theorem hd_bounds (s : List UInt8) : 0 ≤ hd s ∧ hd s ≤ 255 := by
  cases s with
  | nil => simp [hd]
  | cons c r => simp only [hd]; have := c.toNat_lt; omega

theorem pairV_bounds (s : List UInt8) : 0 ≤ pairV s ∧ pairV s ≤ 65535 := by
  unfold pairV; have := hd_bounds s; have := hd_bounds s.tail; omega

theorem pairR_length (s : List UInt8) : (pairR s).length ≤ s.length := by simp [pairR]; omega
theorem textR_length (s : List UInt8) : (textR s).length ≤ s.length := by simp [textR]
theorem run_length (p : Part) (s : List UInt8) (c : C) : (p.run s c).1.length ≤ s.length := by
  cases p <;> simp [Part.run, pairR_length, textR_length]
theorem runAll_length (l : List Part) (s : List UInt8) (c : C) : (runAll l s c).1.length ≤ s.length := by
  induction l generalizing s c with
  | nil => simp [runAll]
  | cons p r ih => simp only [runAll]; exact Nat.le_trans (ih _ _) (run_length _ _ _)
theorem one_length (s : List UInt8) (h : s ≠ []) : (one s).1.length < s.length := by
  cases s with
  | nil => exact absurd rfl h
  | cons c r => have := runAll_length (partsOf (hd (c :: r))) r ⟨hd (c :: r), 0, 0, 0, [], []⟩; simp only [one, List.tail_cons, List.length_cons]; omega

/-- The commands of bytes. -/
def dec (s : List UInt8) : List C :=
  if h : s = [] then [] else (one s).2 :: dec (one s).1
termination_by s.length
decreasing_by exact one_length s h

theorem dec_nil : dec [] = [] := by rw [dec]; simp
theorem dec_ne {s : List UInt8} (h : s ≠ []) : dec s = (one s).2 :: dec (one s).1 := by rw [dec]; simp [h]
theorem dec_length (s : List UInt8) : (dec s).length ≤ s.length := by
  induction h : s.length using Nat.strongRecOn generalizing s with
  | _ n ih =>
    by_cases hs : s = []
    · subst hs; simp [dec_nil]
    · rw [dec_ne hs, List.length_cons]
      have := one_length s hs
      have := ih (one s).1.length (by omega) (one s).1 rfl
      omega

/-- Writing. -/
def b1 (v : Int) : UInt8 := UInt8.ofNat (v % 256).toNat
theorem b1_val (v : Int) : ((b1 v).toNat : Int) = v % 256 := by
  unfold b1
  have h1 : 0 ≤ v % 256 := by omega
  have h2 : v % 256 < 256 := by omega
  have h3 : (v % 256).toNat % 256 = (v % 256).toNat := Nat.mod_eq_of_lt (by omega)
  rw [UInt8.toNat_ofNat', h3]
  omega
def encText (s : List UInt8) : List UInt8 := b1 s.length :: s
def encPair (v : Int) : List UInt8 := [b1 v, b1 (v / 256)]
def Part.enc (c : C) : Part → List UInt8
  | .a => encPair c.a
  | .b => encPair c.b
  | .l => [b1 c.c]
  | .t => encText c.s
  | .u => encText c.t
def enc (c : C) : List UInt8 := b1 c.k :: (partsOf c.k).flatMap (Part.enc c)
/-- Can a command be said by bytes? -/
def okC (c : C) : Bool := decide (dec (enc c) = [c])
/-- The bytes of commands; none, if one of them has none. -/
def encAll : List C → Option (List UInt8)
  | [] => some []
  | c :: r => if dec (enc c) = [c] then (encAll r).map (enc c ++ ·) else none
end Go.Proofs.Ytcjahjhpbffcfaa
