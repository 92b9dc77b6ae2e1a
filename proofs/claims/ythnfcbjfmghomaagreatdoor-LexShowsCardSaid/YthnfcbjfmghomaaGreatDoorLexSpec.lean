/- What the scanner computes, said in plain Lean: no program in sight. -/
import Derived.KernelRfl
namespace Go.Lex
abbrev B := List UInt8

def small (c : UInt8) : Bool := decide (97 ≤ c.toNat ∧ c.toNat ≤ 122)
def great (c : UInt8) : Bool := decide (65 ≤ c.toNat ∧ c.toNat ≤ 90)
def digit (c : UInt8) : Bool := decide (48 ≤ c.toNat ∧ c.toNat ≤ 57)
def rest (c : UInt8) : Bool := small c || great c || digit c || c == 95
def lump (c : UInt8) : Bool := small c || great c || digit c || c == 46 || c == 45
def words : List B := [[109, 111, 100, 117, 108, 101], [105, 109, 112, 111, 114, 116], [112, 105, 110], [114, 97, 110, 103, 101], [116, 121, 112, 101], [111, 112, 97, 113, 117, 101], [108, 101, 116], [105, 110], [101, 120, 112, 111, 114, 116], [102, 117, 110], [105, 102], [116, 104, 101, 110], [101, 108, 115, 101], [99, 97, 115, 101], [111, 102], [97, 115], [110, 101, 119], [114, 97, 119], [116, 114, 117, 101], [102, 97, 108, 115, 101]]
def signs : List B := [[40], [41], [123], [125], [91], [93], [60], [62], [60, 61], [62, 61], [61], [94], [42], [44], [58], [46], [47], [64], [124], [45, 62]]
def isWord (s : B) : Bool := words.contains s
def isSign (s : B) : Bool := signs.contains s
def named (first : UInt8 → Bool) (s : B) : Bool := match s with
  | [] => false
  | c :: _ => decide (s.length ≤ 24) && first c && s.all rest
def isName (s : B) : Bool := named small s && !isWord s
def isUpper (s : B) : Bool := named great s

/-- of how many bytes is the code point that a text begins with? 0: none -/
def cont (c : UInt8) : Bool := decide (128 ≤ c.toNat ∧ c.toNat ≤ 191)
def between (lo hi : Nat) (c : UInt8) : Bool := decide (lo ≤ c.toNat ∧ c.toNat ≤ hi)
def utfLen : B → Nat
  | [] => 0
  | a :: r =>
    if a.toNat < 128 then 1
    else if a.toNat < 194 then 0
    else if a.toNat < 224 then match r with
      | b :: _ => if cont b then 2 else 0
      | _ => 0
    else if a.toNat < 240 then match r with
      | b :: c :: _ => if between (if a.toNat = 224 then 160 else 128) (if a.toNat = 237 then 159 else 191) b && cont c then 3 else 0
      | _ => 0
    else if a.toNat < 245 then match r with
      | b :: c :: d :: _ => if between (if a.toNat = 240 then 144 else 128) (if a.toNat = 244 then 143 else 191) b && cont c && cont d then 4 else 0
      | _ => 0
    else 0
/-- the first byte at which no code point begins -/
def utfBadF : Nat → B → Option Nat
  | 0, _ => none
  | _ + 1, [] => none
  | f + 1, s => match utfLen s with
    | 0 => some 0
    | n + 1 => (utfBadF f (s.drop (n + 1))).map (· + (n + 1))
def utfBad (s : B) : Option Nat := utfBadF s.length s

/-! ### Versions -/
/-- a text's parts, at its dots -/
def parts : B → List B
  | [] => [[]]
  | c :: r => if c = 46 then [] :: parts r else match parts r with
    | p :: ps => (c :: p) :: ps
    | [] => [[c]]
def digits (s : B) : Bool := !s.isEmpty && s.all digit
def alnum (c : UInt8) : Bool := digit c || small c || great c || c == 45
def preOk (s : B) : Bool := !s.isEmpty && s.all alnum && (!digits s || s == [48] || s.head? != some 48)
def numOk (s : B) : Bool := digits s && decide (s.length ≤ 6) && (decide (s.length ≤ 1) || s.head? != some 48)
def verOk (s : B) : Bool :=
  let core := s.takeWhile (· != 45)
  let tail := s.drop core.length
  decide ((parts core).length = 3) && (parts core).all numOk && match tail with
    | [] => true
    | _ :: pre => !pre.isEmpty && decide (pre.length ≤ 24) && (parts pre).all preOk

/-! ### Tokens -/
structure Tok where
  kind : Nat
  text : B
  at' : Nat
  deriving DecidableEq
structure Fault where
  err : Nat
  at' : Nat
  deriving DecidableEq

def esc (c : UInt8) : Option UInt8 := if c = 110 then some 10 else if c = 116 then some 9 else if c = 34 then some 34 else if c = 92 then some 92 else none
/-- a quoted text behind its first sign: what it holds, and where it ends -/
def quotedF : Nat → Nat → B → B → Except Fault (B × Nat)
  | 0, _, _, _ => .error ⟨60, 0⟩
  | _ + 1, _, [], _ => .error ⟨60, 0⟩
  | f + 1, i, c :: r, out =>
    if c = 34 then .ok (out, i + 1)
    else if c.toNat < 32 then .error ⟨60, 0⟩
    else if c = 92 then match r with
      | [] => .error ⟨60, 0⟩
      | e :: r' => match esc e with
        | some b => quotedF f (i + 2) r' (out ++ [b])
        | none => .error ⟨60, 0⟩
    else match utfLen (c :: r) with
      | 0 => .error ⟨30, i⟩
      | n + 1 => quotedF f (i + (n + 1)) ((c :: r).drop (n + 1)) (out ++ (c :: r).take (n + 1))
def number (t : B) : Bool := t.all digit && decide (t.length ≤ 15) && (t == [48] || t.head? != some 48)
/-- the token that a text begins with: its kind, its text, how many bytes it has -/
def first (s : B) : Except Fault (Nat × B × Nat) := match s with
  | [] => .error ⟨60, 0⟩
  | c :: r =>
    if small c || great c then
      let t := s.takeWhile rest
      if isWord t then .ok (5, t, t.length) else if isName t then .ok (1, t, t.length) else if isUpper t then .ok (2, t, t.length) else .error ⟨60, 0⟩
    else if digit c then
      let t := s.takeWhile lump
      if number t then .ok (3, t, t.length) else if verOk t then .ok (7, t, t.length) else .error ⟨60, 0⟩
    else if c = 34 then match quotedF (r.length + 1) 1 r [] with
      | .ok (t, n) => .ok (4, t, n)
      | .error e => .error e
    else if 2 ≤ s.length ∧ isSign (s.take 2) then .ok (6, s.take 2, 2)
    else if isSign (s.take 1) then .ok (6, s.take 1, 1)
    else .error ⟨60, 0⟩
def blank (c : UInt8) : Bool := c == 32 || c == 10 || c == 9 || c == 13
def scanF : Nat → Nat → B → List Tok → Except Fault (List Tok)
  | 0, _, _, _ => .error ⟨0, 0⟩
  | _ + 1, at', [], acc => .ok (acc ++ [⟨0, [], at'⟩])
  | f + 1, at', c :: r, acc =>
    if blank c then scanF f (at' + 1) r acc
    else if c = 45 ∧ r.head? = some 45 then
      let t := (c :: r).takeWhile (· != 10)
      match utfBad t with
      | some k => .error ⟨30, at' + k⟩
      | none => scanF f (at' + t.length) ((c :: r).drop t.length) acc
    else match first (c :: r) with
      | .error e => .error ⟨e.err, at' + e.at'⟩
      | .ok (k, t, n) => scanF f (at' + n) ((c :: r).drop n) (acc ++ [⟨k, t, at'⟩])
def scan (s : B) : Except Fault (List Tok) := if s.length > 4096 then .error ⟨3, 4096⟩ else scanF (s.length + 1) 0 s []

/-! ### Writing -/
def quoteB (c : UInt8) : B := if c = 10 then [92, 110] else if c = 9 then [92, 116] else if c = 34 then [92, 34] else if c = 92 then [92, 92] else [c]
def quote (s : B) : B := [34] ++ s.flatMap quoteB ++ [34]
def written (k : Int) (t : B) : B := if k = 4 then quote t else t
end Go.Lex
