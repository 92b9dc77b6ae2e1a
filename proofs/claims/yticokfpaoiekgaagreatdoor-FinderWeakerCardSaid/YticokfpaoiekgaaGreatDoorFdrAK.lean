/- The law behind: one part of its proof (joined by program out of my own texts). No condition. -/
import Derived.Test.YticokfpaoiekgaaGreatDoorFdrAJ
import Derived.Lib.LaidU8
import Derived.Deep.DeepHandedRow
import Derived.Deep.DeepWitnessRowRef
import Derived.ProofKit
import Derived.SizedLaws
import Derived.LaidMore
import Derived.LaidHandle
import Derived.Test.YticokfpaoiekgaaGreatDoorRows
import Derived.Lib.Bytealg
section
namespace Go.Lift
theorem own_mono {w : World} {base base' e sz n : Nat} {v : Value} {xs : List Value} (h : w.ownsRow base e sz v n xs) (hb : base' ≤ base) : w.ownsRow base' e sz v n xs := by
 refine ⟨h.1, ?_⟩
 rcases h.2 with h | ⟨g, cap, cur, rfl, h0, r⟩
 ·exact .inl h
 ·exact .inr ⟨g, cap, cur, rfl, Nat.le_trans hb h0, r⟩
end Go.Lift
namespace Go.Proofs.YticokfpaoiekgaaGreatDoor
open Go.Lift Go.Lex
section
variable {w : World} {R : Ending → World → Prop}
theorem fault_ret {b m : Nat} {t tm : TypeId} {v0 v1 v2 x y : Value} {e a : Int} (_ : m ≠ b) (B1 : Blk w b t [v0, v1, v2, .int .i64 e, .int .i64 a]) (M1 : Blk w m tm [x, y])
  (h : ∀ w', Fr (oneB m) w w' → R (.returned (.tuple #[.slice none 0 0, .agg #[.int .i64 e, .int .i64 a]])) w') :
  drewG (ldG (CT.int IntKind.i64) (Addr.mk b 3 Option.none) (fun (n21 : Int) => ldG (CT.int IntKind.i64) (Addr.mk b 4 Option.none) (fun (n22 : Int) => stG (Addr.mk m 0 Option.none) (Value.int IntKind.i64 n21) (stG (Addr.mk m 1 Option.none) (Value.int IntKind.i64 n22)
   (ldG (CT.int IntKind.i64) (Addr.mk m 0 Option.none) (fun (n23 : Int) => ldG (CT.int IntKind.i64) (Addr.mk m 1 Option.none) (fun (n24 : Int) => retG (Value.tuple #[(Value.slice Option.none 0 0), (Value.agg #[(Value.int IntKind.i64 n23), (Value.int IntKind.i64 n24)])])))))))) R w := by
 refine drew_ok fun w1 F1 z1 => ?_
 have B2 := B1.fr F1 (fun h => h)
 refine B2.ld (o := 3) rfl (B2.ld (o := 4) rfl ?_)
 refine (M1.fr F1 (fun h => h)).st (o := 0) rfl (by simp) fun w2 M2 F2 => M2.st (o := 1) rfl (by simp) fun w3 M3 F3 => ?_
 exact M3.ld (o := 0) rfl (M3.ld (o := 1) rfl (h _ (((F1.mono fun _ _ h => h.elim).sq F2).sq F3)))
def ScanP (w : World) (s : ByteArray) : Ending → World → Prop := fun en w' => (match scan (bl s) with
  | .ok toks => ∃ l : Sl, en = .returned (.tuple #[.slice l.a l.n l.c, .agg #[.int .i64 0, .int .i64 0]]) ∧ w'.ownsRow w.heap.size 124 3 (.slice l.a l.n l.c) toks.length (toks.flatMap tokCells)
  | .error f => en = .returned (.tuple #[.slice none 0 0, .agg #[.int .i64 (f.err : Int), .int .i64 (f.at' : Int)]])) ∧ Fr noB w w'
set_option maxHeartbeats 4000000 in
theorem Scan_ok (s : ByteArray) (hg : Glob w) : Calls Tryz.prog 80 #[.string s] w (ScanP w s) := by
 have hsl := bl_length s
 apply c80
 unfold t80 wrZ ivZ tvZ ldIZ ldLZ nwZ caBZ caSZ caZ jn0Z jnBZ
 refine new_ok fun w1 m1 hm1 hs1 M1 F1 => ite_ok (fun hbig => ?_) fun hsmall => ?_
 ·have hbig : (s.size : Int) > 4096 := of_decide_eq_true hbig
  refine M1.st (o := 0) rfl (by simp) fun w2 M2 F2 => M2.st (o := 1) rfl (by simp) fun w3 M3 F3 => M3.ld (o := 0) rfl (M3.ld (o := 1) rfl ?_)
  show ScanP w s _ _
  unfold ScanP
  rw [scan_big (by omega)]
  exact ⟨rfl, F1.then (F2.sq F3) fun y hy h => by unfold oneB at h; omega⟩
 have hsmall : ¬ (s.size : Int) > 4096 := of_decide_eq_false hsmall
 refine new_ok fun w2 b hb hs2 B2 F2 => ?_
 have M2 := M1.fr F2 (fun h => h)
 have F02 := F1.tr F2
 have hmb : m1 ≠ b := by omega
 have hwb : w.heap.size ≤ b := by omega
 have hm1b : m1 < b := by omega
 have hscan := scan_L (s := bl s) (by omega)
 have S2 : St w2 b s 0 [] 0 0 := ⟨⟨none, 0, 0⟩, B2, rfl, .inl ⟨rfl, rfl⟩⟩
 have hg2 : GlobB b w2 := GlobB.of hg F02 hwb
 have fin : ∀ {w' w'' : World}, Fr (bh b) w2 w' → Fr (oneB m1) w' w'' → Fr noB w w'' := fun F G => (F02.then F fun y hy h => by unfold bh at h; omega).then G fun y hy h => by unfold oneB at h; omega
 -- the way out with a fault
 have out : ∀ {w' : World} {i' : Nat} {acc : List Tok} {f : Fault}, scan (bl s) = .error f → St w' b s i' acc (f.err : Int) (f.at' : Int) → Fr (bh b) w2 w' →
   drewG (ldG (CT.int IntKind.i64) (Addr.mk b 3 Option.none) (fun (n21 : Int) => ldG (CT.int IntKind.i64) (Addr.mk b 4 Option.none) (fun (n22 : Int) => stG (Addr.mk m1 0 Option.none) (Value.int IntKind.i64 n21) (stG (Addr.mk m1 1 Option.none) (Value.int IntKind.i64 n22)
    (ldG (CT.int IntKind.i64) (Addr.mk m1 0 Option.none) (fun (n23 : Int) => ldG (CT.int IntKind.i64) (Addr.mk m1 1 Option.none) (fun (n24 : Int) => retG (Value.tuple #[(Value.slice Option.none 0 0), (Value.agg #[(Value.int IntKind.i64 n23), (Value.int IntKind.i64 n24)])])))))))) (ScanP w s) w' := by
  intro w' i' acc f hf hS F
  obtain ⟨l, B, _⟩ := hS
  refine fault_ret hmb B (M2.fr F (fun h => by unfold bh at h; omega)) fun w'' G => ?_
  unfold ScanP
  rw [hf]
  exact ⟨rfl, fin F G⟩
 refine join0_ok (fun w' => ∃ acc, scan (bl s) = .ok (acc ++ [⟨0, [], s.size⟩]) ∧ acc.length ≤ s.size ∧ St w' b s s.size acc 0 0 ∧ Fr (bh b) w2 w') (fun k5 hk5 => ?_) ?_
 ·refine loop0_ok (fun m w' => ∃ (j : Nat) (acc : List Tok), m = s.size - j ∧ j ≤ s.size ∧ acc.length ≤ j ∧ St w' b s j acc 0 0 ∧ Fr (bh b) w2 w' ∧ scan (bl s) = scanL j ((bl s).drop j) acc) (fun m rec w3 hI hrec => ?_) (n := s.size) ⟨0, [], rfl, Nat.zero_le _, Nat.le_refl _, S2, Fr.refl _ _, hscan⟩
  obtain ⟨j, acc, rfl, hj, hacc, S3, F3, hq⟩ := hI
  refine join_in ?_
  obtain ⟨l, B3, hown3⟩ := S3
  refine callU8_ok (peek_ok (k := 0) B3 (by omega) (by omega)) fun w4 F4 => ?_
  have S4 : St w4 b s j acc 0 0 := St.fr ⟨l, B3, hown3⟩ F4
  have B4 := B3.fr F4 (fun h => h)
  have F24 := F3.sq (F4.up b)
  rw [Nat.add_zero]
  cases hrem : (bl s).drop j with
  | nil =>
   have hjs : j = s.size := by have := List.drop_eq_nil_iff.1 hrem; omega
   subst hjs
   refine join_in (B4.ld (o := 1) rfl (ite_yes (by simp) (hk5 _ ⟨acc, ?_, hacc, S4, F24⟩)))
   rw [hq, hrem, scanL_nil]
  | cons c r =>
   obtain ⟨hc, hdr, hlt⟩ := drop_cons_getD hrem
   rw [hsl] at hlt
   rw [hc]
   rw [hrem] at hq
   have hrl : (c :: r).length = s.size - j := by rw [← hrem, List.length_drop, hsl]
   refine join0_ok (fun w' => Lex.blank c = false ∧ ¬ (c = 45 ∧ r.head? = some 45) ∧ St w' b s j acc 0 0 ∧ Fr (bh b) w2 w') (fun k9 hk9 => ?_) ?_
   ·refine B4.ld (o := 1) rfl (ite_no (by rw [beq_eq_false_iff_ne]; omega) ?_)
    refine join1_ok (c := .bool) (fun (x : Bool) w' => x = Lex.blank c ∧ w' = w4) (fun kb hkb => ?_) ?_
    ·rw [u8_lit c 32 (z := 32) rfl, u8_lit c 10 (z := 10) rfl, u8_lit c 9 (z := 9) rfl, u8_lit c 13 (z := 13) rfl]
     unfold Lex.blank at hkb
     generalize (c == 32) = x1 at *
     generalize (c == 10) = x2 at *
     generalize (c == 9) = x3 at *
     generalize (c == 13) = x4 at *
     exact ite_ok (fun h => hkb _ _ ⟨by rw [h]; rfl, rfl⟩) fun h => ite_ok (fun h2 => hkb _ _ ⟨by rw [h, h2]; rfl, rfl⟩) fun h2 => ite_ok (fun h3 => hkb _ _ ⟨by rw [h, h2, h3]; rfl, rfl⟩) fun h3 => hkb _ _ ⟨by rw [h, h2, h3]; rfl, rfl⟩
    rintro x w' ⟨rfl, hw⟩
    replace hw := hw.symm
    subst hw
    refine ite_ok (fun hbl => ?_) fun hbl => ?_
    ·refine B4.ld (o := 1) rfl (B4.st (o := 1) rfl (by simp) fun w5 B5 F5 => hrec (s.size - (j + 1)) w5 (by omega) ⟨j + 1, acc, rfl, by omega, by omega, ⟨l, ?_, own_one (own_fr0 hown3 F4) F5⟩, F24.sq F5.one, ?_⟩)
     ·have ew : IntKind.wrap .i64 ((j : Int) + 1) = ((j + 1 : Nat) : Int) := by rw [wrap_ok (by omega) (by omega)]; omega
      rw [← ew]
      exact B5
     ·rw [hq, scanL_blank hbl, hdr]
    refine join1_ok (c := .bool) (fun (x : Bool) w' => (x = true ↔ (c = 45 ∧ r.head? = some 45)) ∧ Fr noB w4 w') (fun kb hkb => ?_) ?_
    ·rw [u8_lit c 45 (z := 45) rfl]
     refine ite_ok (fun h => callU8_ok (peek_ok (k := 1) B4 (by omega) (by omega)) fun w5 F5 => ?_) fun h => hkb _ _ ⟨?_, Fr.refl _ _⟩
     rotate_left
     ·have h : ¬ c = 45 := by simpa using h
      simp [h]
     have h : c = 45 := by simpa using h
     rw [u8_lit _ 45 (z := 45) rfl]
     refine hkb _ _ ⟨?_, F5⟩
     have hd1 : (bl s).getD (j + 1) 0 = (r.head?.getD 0) := by
      cases r with
      | nil => exact drop_nil_getD hdr
      | cons y r => exact (drop_cons_getD hdr).1
     rw [hd1, beq_iff_eq]
     cases r with
     | nil => simp [h]
     | cons y r => simp [h]
    rintro x w5 ⟨hx, F5⟩
    have B5 := B4.fr F5 (fun h => h)
    have S5 := S4.fr F5
    have F25 := F24.sq (F5.up b)
    refine ite_ok (fun h => ?_) fun h => hk9 _ ⟨hbl, (fun hh => by rw [hx.2 hh] at h; cases h), S5, F25⟩
    have hline := hx.1 h
    have hT := scanL_line (i := j) (acc := acc) hbl hline
    have hT1 : 1 ≤ (comment (c :: r)).length := by rw [hline.1]; exact comment_pos r
    have hT2 := ((c :: r).takeWhile_sublist (· != 10)).length_le
    refine B5.ld (o := 1) rfl (callS_ok (while_ok B5 (by omega) (by omega) pred_line) fun w6 ⟨B6, F6⟩ => ?_)
    rw [hrem] at B6
    change Blk w6 b _ (_ :: .int .i64 ((j + (comment (c :: r)).length : Nat) : Int) :: _) at B6
    have F26 := F25.sq F6.one
    refine B6.ld (o := 1) rfl (call_ok (whole_ok (i := j) (j := j + (comment (c :: r)).length) B6 (hg2.fr F26).glob (by omega) (by omega) (by unfold comment; omega)) ?_)
    intro en w7 hpost
    have etk : ((bl s).drop j).take (j + (comment (c :: r)).length - j) = comment (c :: r) := by
     rw [hrem, Nat.add_sub_cancel_left]
     exact (List.prefix_iff_eq_take.1 (List.takeWhile_prefix _)).symm
    rw [etk] at hpost
    have hown6 := own_one (own_fr0 (own_fr0 hown3 F4) F5) F6
    cases hu : utfBad (comment (c :: r)) with
    | some k =>
     rw [hu] at hpost hT
     obtain ⟨rfl, B7, F7⟩ := hpost
     refine ⟨((false, ()), ()), rfl, ?_⟩
     exact out (f := ⟨30, j + k⟩) (hq.trans hT) ⟨l, B7, own_one hown6 F7⟩ (F26.sq F7.one)
    | none =>
     rw [hu] at hpost hT
     obtain ⟨rfl, F7⟩ := hpost
     refine ⟨((true, ()), ()), rfl, ?_⟩
     refine hrec (s.size - (j + (comment (c :: r)).length)) w7 (by omega) ⟨j + (comment (c :: r)).length, acc, rfl, by unfold comment; omega, by omega, ⟨l, B6.fr F7 (fun h => h), own_fr0 hown6 F7⟩, F26.sq (F7.up b), ?_⟩
     rw [hq, hT, ← hrem, List.drop_drop]
   ·rintro w5 ⟨hbl, hln, S5, F25⟩
    have hT := scanL_tok (i := j) (acc := acc) hbl hln
    refine call_ok (token_ok S5 (hg2.fr F25) (by omega) hlt (by omega)) ?_
    intro en w6 hp
    unfold TokP at hp
    rw [hrem] at hp
    cases hf : first (c :: r) with
    | error f =>
     rw [hf] at hp hT
     obtain ⟨rfl, ⟨i', S6⟩, F6⟩ := hp
     refine ⟨((false, ()), ()), rfl, ?_⟩
     exact out (f := ⟨f.err, j + f.at'⟩) (hq.trans hT) S6 (F25.sq F6)
    | ok x =>
     obtain ⟨k, t, n⟩ := x
     have hpos := first_pos hf
     rw [hf] at hp hT
     obtain ⟨rfl, S6, F6⟩ := hp
     refine ⟨((true, ()), ()), rfl, ?_⟩
     refine hrec (s.size - (j + n)) w6 (by omega) ⟨j + n, _, rfl, by omega, by rw [List.length_append, List.length_singleton]; omega, S6, F25.sq F6, ?_⟩
     rw [hq, hT, ← hrem]
     simp only [List.drop_drop]
 rintro w3 ⟨acc, hsc, hacc, ⟨l, B3, hown3⟩, F3⟩
 have M3 := M2.fr F3 (fun h => by unfold bh at h; omega)
 refine B3.ldS (o := 2) rfl (new_ok fun w4 m31 hm31 hs4 B31 F4 => ?_)
 have hown4 := own_fr0 hown3 F4
 have B4 := B3.fr F4 (fun h => h)
 have M4 := M3.fr F4 (fun h => h)
 obtain ⟨ti, z, hi, hz, h1, h2, h3⟩ := rTok
 have hb4 := B4.lt
 refine appendC_ok uToks hi hz h1 h2 (by rw [h3]; rfl) (by omega) (s := l) hown4 (m := 1) (news := [.int .i64 0, .string ⟨#[]⟩, .int .i64 (s.size : Int)]) rfl (B31.held fun j v hj => by rw [Nat.zero_add]; exact hj)
  (fun u hu => by simp only [List.mem_cons, List.not_mem_nil, or_false] at hu; rcases hu with rfl | rfl | rfl <;> rfl) (by unfold maxLen; omega) (by omega) (by omega) fun l' w5 hown5 F5 => ?_
 have M5 := M4.fr F5 (fun h => own_ne hown4 M4 (by decide) _ h rfl)
 refine M5.st (o := 0) rfl (by simp) fun w6 M6 F6 => M6.st (o := 1) rfl (by simp) fun w7 M7 F7 => M7.ld (o := 0) rfl (M7.ld (o := 1) rfl ?_)
 show ScanP w s _ _
 unfold ScanP
 rw [hsc]
 refine ⟨⟨l', rfl, ?_⟩, fin ((F3.sq (F4.up b)).then F5 fun y hy h => ?_) (F6.sq F7)⟩
 ·rw [List.length_append, List.flatMap_append]
  have := own_fr (own_fr hown5 F6 fun k hk e => own_ne hown5 M5 (by decide) _ hk e.symm) F7 fun k hk e => by
   have := own_ne hown5 M5 (by decide) _ hk
   exact this e.symm
  have := own_mono this (base' := w.heap.size) (by omega)
  simpa [tokCells, bs] using this
 ·have := (hown4.lt y h).1
  unfold bh
  omega
end
end Go.Proofs.YticokfpaoiekgaaGreatDoor
end
section
namespace Go.Proofs.YticokfpaoiekgaaGreatDoor
open Go.Lift Go.Lex
theorem own : ownKnob Tryz.prog.godebug = none := by kernel_rfl
theorem first_eq : Go.Pinned.utf8First = Lib.firstData := by kernel_rfl
theorem accept_eq : (Rows.laid_unicode_utf8_acceptRanges : DataW Unit) = Lib.acceptData := by kernel_rfl
theorem globs {W : World} (hL : laidMetH Tryz.prog Rows.finderRanksRow.laid W) (hS : W.ShapedOpen Tryz.prog) : Glob W := by
 have hL := hL
 rw [MakeChecks.laidMetH_plain _ _ _ (by kernel_rfl)] at hL
 refine ⟨Go.Proofs.cell_of_shapedOpen_int (zero := #[.int .i64 0]) (t := 3) hS (of_decide_eq_true (by kernel_rfl)) (by kernel_rfl) rfl (by kernel_rfl) (by kernel_rfl) Tryz.underlying3, ?_⟩
 refine utf8Tabs_of_reads Tryz.lays260 ⟨by kernel_rfl, by kernel_rfl, by kernel_rfl, by kernel_rfl, by kernel_rfl, by kernel_rfl, by kernel_rfl⟩ ?_ ?_
 ·rw [← first_eq]
  exact Lib.laidMet.reads hL (List.mem_of_getElem? (i := 6) rfl)
 ·rw [← accept_eq]
  exact Lib.laidMet.reads hL (List.mem_of_getElem? (i := 3) rfl)
noncomputable def doorWorld (os : Os) : World :=
 let w0 := World.doorLaid Tryz.prog 72 os
 { w0 with heap := w0.heap.modify 1 fun
   | .cells _ t frozen => .cells (Lib.firstTab.map fun z => Value.int .u8 z).toArray t frozen
   | o => o }
theorem door_met (os : Os) (args : Array Value) : laidMetH Tryz.prog Rows.finderRanksRow.laid ((doorWorld os).forCall (fun _ _ => 0) ⟨#[], args, []⟩).memory :=
 laidMetH_of_parts3 (fuel := 8) (laidMet_of_run' 8 (by kernel_rfl) (by kernel_rfl)) (by kernel_rfl) (by kernel_rfl)
end Go.Proofs.YticokfpaoiekgaaGreatDoor
end
section
namespace Go.Shp
open Go.Lex
inductive Shape where
 | mk (kind : Int) (of name : B) (names : List B) (parts : List Shape)
def Shape.kind : Shape → Int | .mk k _ _ _ _ => k
def Shape.of : Shape → B | .mk _ o _ _ _ => o
def Shape.name : Shape → B | .mk _ _ n _ _ => n
def Shape.names : Shape → List B | .mk _ _ _ ns _ => ns
def Shape.parts : Shape → List Shape | .mk _ _ _ _ ps => ps
mutual
def size : Shape → Nat
 | .mk _ _ _ _ ps => 1 + sizes ps
def sizes : List Shape → Nat
 | [] => 0
 | s :: r => size s + sizes r
end
mutual
def deep : Shape → Nat
 | .mk _ _ _ _ ps => 1 + deeps ps
def deeps : List Shape → Nat
 | [] => 0
 | s :: r => max (deep s) (deeps r)
end
def plainT (s : B) : Bool := s == [73, 110, 116] || s == [66, 111, 111, 108] || s == [84, 101, 120, 116] || s == [65, 110, 121]
def namedOk (ns : List B) (n : Nat) : Bool := decide (ns.length = n) && ns.all isName && decide ns.Nodup
def fits : Shape → Bool
 | .mk k of nm ns ps =>
  if k = 1 ∨ k = 2 ∨ k = 3 ∨ k = 4 then of.isEmpty && nm.isEmpty && ns.isEmpty && ps.isEmpty
  else if k = 5 then of.isEmpty && nm.isEmpty && ns.isEmpty && decide (ps.length = 1)
  else if k = 6 ∨ k = 7 then of.isEmpty && nm.isEmpty && namedOk ns ps.length
  else if k = 8 then of.isEmpty && nm.isEmpty && ns.isEmpty && decide (0 < ps.length)
  else if k = 9 then isUpper nm && ((of.isEmpty && !plainT nm) || isName of) && ns.isEmpty && ps.isEmpty
  else if k = 10 then isUpper nm && isName of && ns.isEmpty && ps.isEmpty
  else false
mutual
def allFit : Shape → Bool
 | .mk k o n ns ps => fits (.mk k o n ns ps) && allFits ps
def allFits : List Shape → Bool
 | [] => true
 | s :: r => allFit s && allFits r
end
def check (s : Shape) : Nat := if 400 < size s then 3 else if 40 < deep s then 91 else if allFit s then 0 else 70
def ltB (a b : B) : Bool := decide (Lib.compareBytes a b < 0)
def insertP (n : B) (p : Shape) : List (B × Shape) → List (B × Shape)
 | [] => [(n, p)]
 | (m, q) :: r => if ltB m n then (m, q) :: insertP n p r else (n, p) :: (m, q) :: r
def sortP : List (B × Shape) → List (B × Shape)
 | [] => []
 | (n, p) :: r => insertP n p (sortP r)
mutual
def sortS : Shape → Shape
 | .mk k o n ns ps =>
  if ns = [] then .mk k o n [] (sortL ps)
  else .mk k o n ((sortP (ns.zip (sortL ps))).map (·.1)) ((sortP (ns.zip (sortL ps))).map (·.2))
def sortL : List Shape → List Shape
 | [] => []
 | s :: r => sortS s :: sortL r
end
mutual
def eqS : Shape → Shape → Bool
 | .mk k o n ns ps, .mk k' o' n' ns' ps' => decide (k = k') && o == o' && n == n' && ns == ns' && eqL ps ps'
def eqL : List Shape → List Shape → Bool
 | [], [] => true
 | a :: r, b :: t => eqS a b && eqL r t
 | _, _ => false
end
def same (a b : Shape) : Bool := check a == 0 && check b == 0 && eqS (sortS a) (sortS b)
def find : List B → List Shape → B → Option Shape
 | x :: ns, p :: ps, n => if x = n then some p else find ns ps n
 | _, _, _ => none
def funAll (f : Shape → Shape → Bool) : List Shape → List Shape → Bool
 | [x], [y] => f x y
 | x :: r, y :: t => f y x && funAll f r t
 | [], [] => true
 | _, _ => false
def withinF (f : Shape → Shape → Bool) (ns : List B) (ps : List Shape) (os : List B) (qs : List Shape) : Bool := match ns, ps with
 | n :: ns, p :: ps => (match find os qs n with
  | some q => f p q
  | none => false) && withinF f ns ps os qs
 | _, _ => true
def belowF : Nat → Shape → Shape → Bool
 | 0, _, _ => false
 | f + 1, .mk ka oa na nsa psa, .mk kb ob nb nsb psb =>
  if ka ≠ kb then false
  else if ka = 9 ∨ ka = 10 then oa == ob && na == nb
  else if ka = 6 then withinF (fun x y => belowF f y x) nsb psb nsa psa
  else if ka = 7 then withinF (belowF f) nsa psa nsb psb
  else funAll (belowF f) psa psb
def below (a b : Shape) : Bool := belowF (max (deep a) (deep b)) a b
def isBelow (a b : Shape) : Bool := check a == 0 && check b == 0 && below a b
def nearF : Nat → Shape → Shape → Bool
 | 0, _, _ => false
 | f + 1, .mk ka oa na nsa psa, .mk kb ob nb nsb psb =>
  if ka = 4 ∨ kb = 4 then true
  else if ka ≠ kb ∨ oa ≠ ob ∨ na ≠ nb then false
  else if ka = 6 then withinF (fun x y => nearF f y x) nsb psb nsa psa
  else if ka = 7 then withinF (nearF f) nsa psa nsb psb
  else funAll (nearF f) psa psb
def near (a b : Shape) : Bool := nearF (max (deep a) (deep b)) a b
def isNear (a b : Shape) : Bool := check a == 0 && check b == 0 && near a b
def rank (have' want : Shape) : Nat := if same have' want then 3 else if isBelow have' want then 2 else if isNear have' want then 1 else 0
end Go.Shp
end
section
namespace Go.Prs
open Go.Lex Go.Shp
structure PS where
 at' : Nat
 err : Nat
 ea : Nat
 deriving DecidableEq
def peek (l : List Tok) (p : Nat) : Tok := match l[p]? with
 | some t => t
 | none => match l.getLast? with
  | some t => ⟨0, [], t.at'⟩
  | none => ⟨0, [], 0⟩
def fail (e a : Nat) (s : PS) : PS := if s.err = 0 then { s with err := e, ea := a } else s
def isT (l : List Tok) (x : B) (s : PS) : Bool := ((peek l s.at').kind == 6 || (peek l s.at').kind == 5) && (peek l s.at').text == x && s.err == 0
def on (s : PS) : PS := { s with at' := s.at' + 1 }
def may (l : List Tok) (x : B) (s : PS) : Bool × PS := if isT l x s then (true, on s) else (false, s)
def must (l : List Tok) (x : B) (s : PS) : PS := if isT l x s then on s else fail 90 (peek l s.at').at' s
def take (l : List Tok) (k : Nat) (s : PS) : Tok × PS := if (peek l s.at').kind ≠ k ∨ s.err ≠ 0 then (⟨0, [], 0⟩, fail 90 (peek l s.at').at' s) else (peek l s.at', on s)
def fresh (l : List Tok) (ns : List B) (s : PS) : B × PS := let r := take l 1 s
 if r.2.err = 0 ∧ r.1.text ∈ ns then (r.1.text, fail 111 r.1.at' r.2) else (r.1.text, r.2)
def loopL {α : Type} (l : List Tok) (between stop : B) (one : α → PS → α × PS) : Nat → α → PS → α × PS
 | 0, a, s => (a, s)
 | n + 1, a, s => if s.err ≠ 0 then (a, s) else
  let r := one a s
  if isT l stop r.2 then (r.1, on r.2) else loopL l between stop one n r.1 (must l between r.2)
def listL {α : Type} (l : List Tok) (between stop : B) (one : α → PS → α × PS) (n : Nat) (a : α) (s : PS) : α × PS := if isT l stop s then (a, on s) else loopL l between stop one n a s
def upperS (of nm : B) : Shape :=
 if of = [] ∧ nm = [73, 110, 116] then .mk 1 [] [] [] []
 else if of = [] ∧ nm = [66, 111, 111, 108] then .mk 2 [] [] [] []
 else if of = [] ∧ nm = [84, 101, 120, 116] then .mk 3 [] [] [] []
 else if of = [] ∧ nm = [65, 110, 121] then .mk 4 [] [] [] []
 else .mk 9 of nm [] []
def shapeF (l : List Tok) : Nat → PS → Shape × PS
 | 0, s => (.mk 0 [] [] [] [], s)
 | f + 1, s =>
  let named : List B × List Shape → PS → (List B × List Shape) × PS := fun a s =>
   let r := fresh l a.1 s
   let q := shapeF l f (must l [58] r.2)
   ((a.1 ++ [r.1], a.2 ++ [q.1]), q.2)
  let part : List Shape → PS → List Shape × PS := fun a s =>
   let q := shapeF l f s
   (a ++ [q.1], q.2)
  let t := peek l s.at'
  if t.kind = 2 ∧ s.err = 0 then (upperS [] t.text, on s)
  else if t.kind = 1 ∧ s.err = 0 then
   let r := take l 2 (must l [47] (on s))
   (upperS t.text r.1.text, r.2)
  else if isT l [91] s then
   let q := shapeF l f (on s)
   (.mk 5 [] [] [] [q.1], must l [93] q.2)
  else if isT l [123] s then
   let r := listL l [44] [125] named (l.length + 1) ([], []) (on s)
   (.mk 6 [] [] r.1.1 r.1.2, r.2)
  else if isT l [60] s then
   let r := listL l [124] [62] named (l.length + 1) ([], []) (on s)
   (.mk 7 [] [] r.1.1 r.1.2, r.2)
  else if isT l [40] s then
   let r := listL l [44] [41] part (l.length + 1) [] (on s)
   let q := shapeF l f (must l [45, 62] r.2)
   (.mk 8 [] [] [] (r.1 ++ [q.1]), q.2)
  else (.mk 0 [] [] [] [], fail 90 t.at' s)
def wholeF (l : List Tok) (s : PS) : Shape × PS :=
 let q := shapeF l (l.length + 1) s
 if q.2.err = 0 ∧ check q.1 ≠ 0 then (q.1, fail (check q.1) (peek l s.at').at' q.2) else q
end Go.Prs
end
