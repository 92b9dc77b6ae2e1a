/- A token read. No condition. -/
import Derived.Test.YthnfcbjfmghomaaGreatDoorLexF
import Derived.Test.YthnfcbjfmghomaaGreatDoorLexH
namespace Go.Lex
variable {c : UInt8} {r : List UInt8}
theorem first_word (h : (small c || great c) = true) : first (c :: r) = if isWord ((c :: r).takeWhile rest) then .ok (5, (c :: r).takeWhile rest, ((c :: r).takeWhile rest).length) else if isName ((c :: r).takeWhile rest) then .ok (1, (c :: r).takeWhile rest, ((c :: r).takeWhile rest).length)
    else if isUpper ((c :: r).takeWhile rest) then .ok (2, (c :: r).takeWhile rest, ((c :: r).takeWhile rest).length) else .error ⟨60, 0⟩ := by
  unfold first
  simp only []
  rw [if_pos h]
theorem first_num (h : (small c || great c) = false) (h2 : digit c = true) : first (c :: r) = if number ((c :: r).takeWhile lump) then .ok (3, (c :: r).takeWhile lump, ((c :: r).takeWhile lump).length) else if verOk ((c :: r).takeWhile lump) then .ok (7, (c :: r).takeWhile lump, ((c :: r).takeWhile lump).length) else .error ⟨60, 0⟩ := by
  unfold first
  simp only []
  rw [if_neg (by rw [h]; decide), if_pos h2]
theorem first_text : first (34 :: r) = match quotedL 1 r [] with
    | .ok (t, n) => .ok (4, t, n)
    | .error e => .error e := rfl
theorem first_sign (h : (small c || great c) = false) (h2 : digit c = false) (h3 : c ≠ 34) : first (c :: r) = if 2 ≤ (c :: r).length ∧ isSign ((c :: r).take 2) then .ok (6, (c :: r).take 2, 2) else if isSign ((c :: r).take 1) then .ok (6, (c :: r).take 1, 1) else .error ⟨60, 0⟩ := by
  unfold first
  simp only []
  rw [if_neg (by rw [h]; decide), if_neg (by rw [h2]; decide), if_neg h3]
end Go.Lex
namespace Go.Lift
theorem callVer_ok {P : Program} {R : Ending → World → Prop} {w : World} {f : FuncId} {args : Array Value} {Y : World → Prop} {x : Int}
    (hc : Calls P f args w fun en w' => (∃ (x0 x1 x2 : Int) (p : ByteArray), en = .returned (.tuple #[.agg #[.int .i64 x0, .int .i64 x1, .int .i64 x2, .string p], .int .i64 x])) ∧ Y w')
    {k : Int → Int → Int → ByteArray → Int → G} (h : ∀ x0 x1 x2 p w', Y w' → k x0 x1 x2 p x R w') : callG P f args [.agg [.int .i64, .int .i64, .int .i64, .str], .one (.int .i64)] k R w :=
  call_ok hc fun _ w' ⟨⟨x0, x1, x2, p, he⟩, hy⟩ => ⟨((x0, x1, x2, p, ()), (x, ()), ()), he, h x0 x1 x2 p w' hy⟩
end Go.Lift
namespace Go.Proofs.YthnfcbjfmghomaaGreatDoor
open Go.Lift Go.Lex
structure At (w0 w : World) (b m1 m8 : Nat) (s : ByteArray) (i j : Nat) (acc : List Tok) (e a : Int) : Prop where
  st : St w b s j acc e a
  b1 : Blk w m1 44 [.pointer (some ⟨b, 0, none⟩)]
  b8 : Blk w m8 3 [.int .i64 (i : Int)]
  n1 : m1 ≠ b
  n8 : m8 ≠ b
  fr : Fr (bh b) w0 w
section
variable {w0 w w' : World} {b m1 m8 : Nat} {s : ByteArray} {i j : Nat} {acc : List Tok} {e a : Int}
theorem At.go (A : At w0 w b m1 m8 s i j acc e a) (F : Fr noB w w') : At w0 w' b m1 m8 s i j acc e a :=
  ⟨A.st.fr F, A.b1.fr F (fun h => h), A.b8.fr F (fun h => h), A.n1, A.n8, A.fr.sq (F.up b)⟩
theorem At.set {j' : Nat} {e' a' : Int} (A : At w0 w b m1 m8 s i j acc e a) (S : St w' b s j' acc e' a') (F : Fr (oneB b) w w') : At w0 w' b m1 m8 s i j' acc e' a' :=
  ⟨S, A.b1.fr F (fun h => A.n1 h), A.b8.fr F (fun h => A.n8 h), A.n1, A.n8, A.fr.sq F.one⟩
/-- what a token's reading hands back -/
def TokP (w0 : World) (b : Nat) (s : ByteArray) (i : Nat) (acc : List Tok) (e a : Int) : Ending → World → Prop := fun en w' => match first ((bl s).drop i) with
  | .ok (k, T, n) => en = .returned (.bool true) ∧ St w' b s (i + n) (acc ++ [⟨k, T, i⟩]) e a ∧ Fr (bh b) w0 w'
  | .error f => en = .returned (.bool false) ∧ (∃ i', St w' b s i' acc (f.err : Int) ((i + f.at' : Nat) : Int)) ∧ Fr (bh b) w0 w'
theorem add_done {k n : Nat} {T : ByteArray} (A : At w0 w b m1 m8 s i j acc e a) (hf : first ((bl s).drop i) = .ok (k, bl T, n)) (hj : j = i + n) (hacc : acc.length ≤ 1000000) :
    Calls Tryz.prog 47 #[.int .i64 (k : Int), .string T, .pointer (some ⟨m1, 0, none⟩), .pointer (some ⟨m8, 0, none⟩)] w fun en w' => en = .returned (.bool true) ∧ TokP w0 b s i acc e a en w' ∧ Blk w' m1 44 [.pointer (some ⟨b, 0, none⟩)] := by
  subst hj
  refine (add_ok' A.st A.b1 A.b8 A.n8 A.n1 hacc).mono fun en w' ⟨he, hS, hF, hB⟩ => ⟨he, ?_, hB⟩
  unfold TokP
  rw [hf]
  exact ⟨he, hS, A.fr.sq hF⟩
theorem add_ret {k n : Nat} {T : ByteArray} (A : At w0 w b m1 m8 s i j acc e a) (hf : first ((bl s).drop i) = .ok (k, bl T, n)) (hj : j = i + n) (hacc : acc.length ≤ 1000000) :
    callG Tryz.prog 47 #[.int .i64 (k : Int), .string T, .pointer (some ⟨m1, 0, none⟩), .pointer (some ⟨m8, 0, none⟩)] [.one .bool] (fun (x : Bool) => retG (.bool x)) (TokP w0 b s i acc e a) w := by
  refine call_ok (add_done A hf hj hacc) ?_
  rintro _ w' ⟨rfl, hp, _⟩
  exact ⟨((true, ()), ()), rfl, hp⟩
theorem fail_ret (A : At w0 w b m1 m8 s i j acc e a) (hf : first ((bl s).drop i) = .error ⟨60, 0⟩) :
    ldG CT.ptr (Addr.mk m1 0 Option.none) (fun (p : Option Addr) => ldG (CT.int IntKind.i64) (Addr.mk m8 0 Option.none) (fun (n : Int) => callG Tryz.prog 46 #[(Value.pointer p), (Value.int IntKind.i64 (60 : Int)), (Value.int IntKind.i64 n)] [(VT.one CT.bool)] (fun (x : Bool) => retG (Value.bool x)))) (TokP w0 b s i acc e a) w := by
  obtain ⟨l, B, hown⟩ := A.st
  refine A.b1.ld (o := 0) rfl (A.b8.ld (o := 0) rfl (callB_ok (fail_ok B 60 (i : Int)) fun w' ⟨B', F⟩ => ?_))
  show TokP w0 b s i acc e a _ _
  unfold TokP
  rw [hf]
  exact ⟨rfl, ⟨j, l, B', own_one hown F⟩, A.fr.sq F.one⟩
end
end Go.Proofs.YthnfcbjfmghomaaGreatDoor
