/- The finder law behind FRanksCard: one part of its proof (joined by program out of my own texts). No condition. -/
import Derived.Test.YticokfpaoiekgaaGreatDoorFRkAK
import Derived.Lib.Bytealg
section
namespace Go.Shp
open Go.Lex
inductive Shape where
  | mk (kind : Int) (of name : B) (names : List B) (parts : List Shape)
def Shape.kind : Shape → Int | .mk k _ _ _ _ => k
def Shape.of : Shape → B | .mk _ o _ _ _ => o
def Shape.name : Shape → B | .mk _ _ n _ _ => n
def Shape.names : Shape → List B | .mk _ _ _ ns _ => ns
def Shape.parts : Shape → List Shape | .mk _ _ _ _ ps => ps
mutual
def size : Shape → Nat
  | .mk _ _ _ _ ps => 1 + sizes ps
def sizes : List Shape → Nat
  | [] => 0
  | s :: r => size s + sizes r
end
mutual
def deep : Shape → Nat
  | .mk _ _ _ _ ps => 1 + deeps ps
def deeps : List Shape → Nat
  | [] => 0
  | s :: r => max (deep s) (deeps r)
end
def plainT (s : B) : Bool := s == [73, 110, 116] || s == [66, 111, 111, 108] || s == [84, 101, 120, 116] || s == [65, 110, 121]
def namedOk (ns : List B) (n : Nat) : Bool := decide (ns.length = n) && ns.all isName && decide ns.Nodup
def fits : Shape → Bool
  | .mk k of nm ns ps =>
    if k = 1 ∨ k = 2 ∨ k = 3 ∨ k = 4 then of.isEmpty && nm.isEmpty && ns.isEmpty && ps.isEmpty
    else if k = 5 then of.isEmpty && nm.isEmpty && ns.isEmpty && decide (ps.length = 1)
    else if k = 6 ∨ k = 7 then of.isEmpty && nm.isEmpty && namedOk ns ps.length
    else if k = 8 then of.isEmpty && nm.isEmpty && ns.isEmpty && decide (0 < ps.length)
    else if k = 9 then isUpper nm && ((of.isEmpty && !plainT nm) || isName of) && ns.isEmpty && ps.isEmpty
    else if k = 10 then isUpper nm && isName of && ns.isEmpty && ps.isEmpty
    else false
mutual
def allFit : Shape → Bool
  | .mk k o n ns ps => fits (.mk k o n ns ps) && allFits ps
def allFits : List Shape → Bool
  | [] => true
  | s :: r => allFit s && allFits r
end
def check (s : Shape) : Nat := if 400 < size s then 3 else if 40 < deep s then 91 else if allFit s then 0 else 70
def ltB (a b : B) : Bool := decide (Lib.compareBytes a b < 0)
def insertP (n : B) (p : Shape) : List (B × Shape) → List (B × Shape)
  | [] => [(n, p)]
  | (m, q) :: r => if ltB m n then (m, q) :: insertP n p r else (n, p) :: (m, q) :: r
def sortP : List (B × Shape) → List (B × Shape)
  | [] => []
  | (n, p) :: r => insertP n p (sortP r)
mutual
def sortS : Shape → Shape
  | .mk k o n ns ps =>
    if ns = [] then .mk k o n [] (sortL ps)
    else .mk k o n ((sortP (ns.zip (sortL ps))).map (·.1)) ((sortP (ns.zip (sortL ps))).map (·.2))
def sortL : List Shape → List Shape
  | [] => []
  | s :: r => sortS s :: sortL r
end
mutual
def eqS : Shape → Shape → Bool
  | .mk k o n ns ps, .mk k' o' n' ns' ps' => decide (k = k') && o == o' && n == n' && ns == ns' && eqL ps ps'
def eqL : List Shape → List Shape → Bool
  | [], [] => true
  | a :: r, b :: t => eqS a b && eqL r t
  | _, _ => false
end
def same (a b : Shape) : Bool := check a == 0 && check b == 0 && eqS (sortS a) (sortS b)
def find : List B → List Shape → B → Option Shape
  | x :: ns, p :: ps, n => if x = n then some p else find ns ps n
  | _, _, _ => none
def funAll (f : Shape → Shape → Bool) : List Shape → List Shape → Bool
  | [x], [y] => f x y
  | x :: r, y :: t => f y x && funAll f r t
  | [], [] => true
  | _, _ => false
def withinF (f : Shape → Shape → Bool) (ns : List B) (ps : List Shape) (os : List B) (qs : List Shape) : Bool := match ns, ps with
  | n :: ns, p :: ps => (match find os qs n with
    | some q => f p q
    | none => false) && withinF f ns ps os qs
  | _, _ => true
def belowF : Nat → Shape → Shape → Bool
  | 0, _, _ => false
  | f + 1, .mk ka oa na nsa psa, .mk kb ob nb nsb psb =>
    if ka ≠ kb then false
    else if ka = 9 ∨ ka = 10 then oa == ob && na == nb
    else if ka = 6 then withinF (fun x y => belowF f y x) nsb psb nsa psa
    else if ka = 7 then withinF (belowF f) nsa psa nsb psb
    else funAll (belowF f) psa psb
def below (a b : Shape) : Bool := belowF (max (deep a) (deep b)) a b
def isBelow (a b : Shape) : Bool := check a == 0 && check b == 0 && below a b
def nearF : Nat → Shape → Shape → Bool
  | 0, _, _ => false
  | f + 1, .mk ka oa na nsa psa, .mk kb ob nb nsb psb =>
    if ka = 4 ∨ kb = 4 then true
    else if ka ≠ kb ∨ oa ≠ ob ∨ na ≠ nb then false
    else if ka = 6 then withinF (fun x y => nearF f y x) nsb psb nsa psa
    else if ka = 7 then withinF (nearF f) nsa psa nsb psb
    else funAll (nearF f) psa psb
def near (a b : Shape) : Bool := nearF (max (deep a) (deep b)) a b
def isNear (a b : Shape) : Bool := check a == 0 && check b == 0 && near a b
def rank (have' want : Shape) : Nat := if same have' want then 3 else if isBelow have' want then 2 else if isNear have' want then 1 else 0
end Go.Shp
end
section
namespace Go.Prs
open Go.Lex Go.Shp
structure PS where
  at' : Nat
  err : Nat
  ea : Nat
  deriving DecidableEq
def peek (l : List Tok) (p : Nat) : Tok := match l[p]? with
  | some t => t
  | none => match l.getLast? with
    | some t => ⟨0, [], t.at'⟩
    | none => ⟨0, [], 0⟩
def fail (e a : Nat) (s : PS) : PS := if s.err = 0 then { s with err := e, ea := a } else s
def isT (l : List Tok) (x : B) (s : PS) : Bool := ((peek l s.at').kind == 6 || (peek l s.at').kind == 5) && (peek l s.at').text == x && s.err == 0
def on (s : PS) : PS := { s with at' := s.at' + 1 }
def may (l : List Tok) (x : B) (s : PS) : Bool × PS := if isT l x s then (true, on s) else (false, s)
def must (l : List Tok) (x : B) (s : PS) : PS := if isT l x s then on s else fail 90 (peek l s.at').at' s
def take (l : List Tok) (k : Nat) (s : PS) : Tok × PS := if (peek l s.at').kind ≠ k ∨ s.err ≠ 0 then (⟨0, [], 0⟩, fail 90 (peek l s.at').at' s) else (peek l s.at', on s)
def fresh (l : List Tok) (ns : List B) (s : PS) : B × PS := let r := take l 1 s
  if r.2.err = 0 ∧ r.1.text ∈ ns then (r.1.text, fail 111 r.1.at' r.2) else (r.1.text, r.2)
def loopL {α : Type} (l : List Tok) (between stop : B) (one : α → PS → α × PS) : Nat → α → PS → α × PS
  | 0, a, s => (a, s)
  | n + 1, a, s => if s.err ≠ 0 then (a, s) else
    let r := one a s
    if isT l stop r.2 then (r.1, on r.2) else loopL l between stop one n r.1 (must l between r.2)
def listL {α : Type} (l : List Tok) (between stop : B) (one : α → PS → α × PS) (n : Nat) (a : α) (s : PS) : α × PS := if isT l stop s then (a, on s) else loopL l between stop one n a s
def upperS (of nm : B) : Shape :=
  if of = [] ∧ nm = [73, 110, 116] then .mk 1 [] [] [] []
  else if of = [] ∧ nm = [66, 111, 111, 108] then .mk 2 [] [] [] []
  else if of = [] ∧ nm = [84, 101, 120, 116] then .mk 3 [] [] [] []
  else if of = [] ∧ nm = [65, 110, 121] then .mk 4 [] [] [] []
  else .mk 9 of nm [] []
def shapeF (l : List Tok) : Nat → PS → Shape × PS
  | 0, s => (.mk 0 [] [] [] [], s)
  | f + 1, s =>
    let named : List B × List Shape → PS → (List B × List Shape) × PS := fun a s =>
      let r := fresh l a.1 s
      let q := shapeF l f (must l [58] r.2)
      ((a.1 ++ [r.1], a.2 ++ [q.1]), q.2)
    let part : List Shape → PS → List Shape × PS := fun a s =>
      let q := shapeF l f s
      (a ++ [q.1], q.2)
    let t := peek l s.at'
    if t.kind = 2 ∧ s.err = 0 then (upperS [] t.text, on s)
    else if t.kind = 1 ∧ s.err = 0 then
      let r := take l 2 (must l [47] (on s))
      (upperS t.text r.1.text, r.2)
    else if isT l [91] s then
      let q := shapeF l f (on s)
      (.mk 5 [] [] [] [q.1], must l [93] q.2)
    else if isT l [123] s then
      let r := listL l [44] [125] named (l.length + 1) ([], []) (on s)
      (.mk 6 [] [] r.1.1 r.1.2, r.2)
    else if isT l [60] s then
      let r := listL l [124] [62] named (l.length + 1) ([], []) (on s)
      (.mk 7 [] [] r.1.1 r.1.2, r.2)
    else if isT l [40] s then
      let r := listL l [44] [41] part (l.length + 1) [] (on s)
      let q := shapeF l f (must l [45, 62] r.2)
      (.mk 8 [] [] [] (r.1 ++ [q.1]), q.2)
    else (.mk 0 [] [] [] [], fail 90 t.at' s)
def wholeF (l : List Tok) (s : PS) : Shape × PS :=
  let q := shapeF l (l.length + 1) s
  if q.2.err = 0 ∧ check q.1 ≠ 0 then (q.1, fail (check q.1) (peek l s.at').at' q.2) else q
end Go.Prs
end
