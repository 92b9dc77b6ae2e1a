/- The law behind: one part of its proof (joined by program out of my own texts). No condition. -/
import Derived.Test.YtngfnokbdcjoeaaGreatDoorVatAL
import Derived.Lib.LaidTab
import Derived.Lib.ItoaNum
import Derived.Sort.Grow
import Derived.Lib.LaidU8
import Derived.Deep.DeepHandedRow
import Derived.Deep.DeepWitnessRowRef
import Derived.ProofKit
import Derived.SizedLaws
import Derived.LaidMore
import Derived.LaidHandle
import Derived.Test.YtngfnokbdcjoeaaGreatDoorRows
import Derived.Lib.Bytealg
section
namespace Go.Lift
theorem own_mono {w : World} {base base' e sz n : Nat} {v : Value} {xs : List Value} (h : w.ownsRow base e sz v n xs) (hb : base' ≤ base) : w.ownsRow base' e sz v n xs := by
 refine ⟨h.1, ?_⟩
 rcases h.2 with h | ⟨g, cap, cur, rfl, h0, r⟩
 ·exact .inl h
 ·exact .inr ⟨g, cap, cur, rfl, Nat.le_trans hb h0, r⟩
end Go.Lift
namespace Go.Proofs.YtngfnokbdcjoeaaGreatDoor
open Go.Lift Go.Lex
section
variable {w : World} {R : Ending → World → Prop}
theorem fault_ret {b m : Nat} {t tm : TypeId} {v0 v1 v2 x y : Value} {e a : Int} (_ : m ≠ b) (B1 : Blk w b t [v0, v1, v2, .int .i64 e, .int .i64 a]) (M1 : Blk w m tm [x, y])
  (h : ∀ w', Fr (oneB m) w w' → R (.returned (.tuple #[.slice none 0 0, .agg #[.int .i64 e, .int .i64 a]])) w') :
  drewG (ldG (CT.int IntKind.i64) (Addr.mk b 3 Option.none) (fun (n21 : Int) => ldG (CT.int IntKind.i64) (Addr.mk b 4 Option.none) (fun (n22 : Int) => stG (Addr.mk m 0 Option.none) (Value.int IntKind.i64 n21) (stG (Addr.mk m 1 Option.none) (Value.int IntKind.i64 n22)
   (ldG (CT.int IntKind.i64) (Addr.mk m 0 Option.none) (fun (n23 : Int) => ldG (CT.int IntKind.i64) (Addr.mk m 1 Option.none) (fun (n24 : Int) => retG (Value.tuple #[(Value.slice Option.none 0 0), (Value.agg #[(Value.int IntKind.i64 n23), (Value.int IntKind.i64 n24)])])))))))) R w := by
 refine drew_ok fun w1 F1 z1 => ?_
 have B2 := B1.fr F1 (fun h => h)
 refine B2.ld (o := 3) rfl (B2.ld (o := 4) rfl ?_)
 refine (M1.fr F1 (fun h => h)).st (o := 0) rfl (by simp) fun w2 M2 F2 => M2.st (o := 1) rfl (by simp) fun w3 M3 F3 => ?_
 exact M3.ld (o := 0) rfl (M3.ld (o := 1) rfl (h _ (((F1.mono fun _ _ h => h.elim).sq F2).sq F3)))
def ScanP (w : World) (s : ByteArray) : Ending → World → Prop := fun en w' => (match scan (bl s) with
  | .ok toks => ∃ l : Sl, en = .returned (.tuple #[.slice l.a l.n l.c, .agg #[.int .i64 0, .int .i64 0]]) ∧ w'.ownsRow w.heap.size 96 3 (.slice l.a l.n l.c) toks.length (toks.flatMap tokCells)
  | .error f => en = .returned (.tuple #[.slice none 0 0, .agg #[.int .i64 (f.err : Int), .int .i64 (f.at' : Int)]])) ∧ Fr noB w w'
set_option maxHeartbeats 4000000 in
theorem Scan_ok (s : ByteArray) (hg : Glob w) : Calls Tryz.prog 124 #[.string s] w (ScanP w s) := by
 have hsl := bl_length s
 apply c124
 unfold t124 wrZ ivZ tvZ ldIZ ldLZ nwZ caBZ caSZ caZ jn0Z jnBZ
 refine new_ok fun w1 m1 hm1 hs1 M1 F1 => ite_ok (fun hbig => ?_) fun hsmall => ?_
 ·have hbig : (s.size : Int) > 4096 := of_decide_eq_true hbig
  refine M1.st (o := 0) rfl (by simp) fun w2 M2 F2 => M2.st (o := 1) rfl (by simp) fun w3 M3 F3 => M3.ld (o := 0) rfl (M3.ld (o := 1) rfl ?_)
  show ScanP w s _ _
  unfold ScanP
  rw [scan_big (by omega)]
  exact ⟨rfl, F1.then (F2.sq F3) fun y hy h => by unfold oneB at h; omega⟩
 have hsmall : ¬ (s.size : Int) > 4096 := of_decide_eq_false hsmall
 refine new_ok fun w2 b hb hs2 B2 F2 => ?_
 have M2 := M1.fr F2 (fun h => h)
 have F02 := F1.tr F2
 have hmb : m1 ≠ b := by omega
 have hwb : w.heap.size ≤ b := by omega
 have hm1b : m1 < b := by omega
 have hscan := scan_L (s := bl s) (by omega)
 have S2 : St w2 b s 0 [] 0 0 := ⟨⟨none, 0, 0⟩, B2, rfl, .inl ⟨rfl, rfl⟩⟩
 have hg2 : GlobB b w2 := GlobB.of hg F02 hwb
 have fin : ∀ {w' w'' : World}, Fr (bh b) w2 w' → Fr (oneB m1) w' w'' → Fr noB w w'' := fun F G => (F02.then F fun y hy h => by unfold bh at h; omega).then G fun y hy h => by unfold oneB at h; omega
 -- the way out with a fault
 have out : ∀ {w' : World} {i' : Nat} {acc : List Tok} {f : Fault}, scan (bl s) = .error f → St w' b s i' acc (f.err : Int) (f.at' : Int) → Fr (bh b) w2 w' →
   drewG (ldG (CT.int IntKind.i64) (Addr.mk b 3 Option.none) (fun (n21 : Int) => ldG (CT.int IntKind.i64) (Addr.mk b 4 Option.none) (fun (n22 : Int) => stG (Addr.mk m1 0 Option.none) (Value.int IntKind.i64 n21) (stG (Addr.mk m1 1 Option.none) (Value.int IntKind.i64 n22)
    (ldG (CT.int IntKind.i64) (Addr.mk m1 0 Option.none) (fun (n23 : Int) => ldG (CT.int IntKind.i64) (Addr.mk m1 1 Option.none) (fun (n24 : Int) => retG (Value.tuple #[(Value.slice Option.none 0 0), (Value.agg #[(Value.int IntKind.i64 n23), (Value.int IntKind.i64 n24)])])))))))) (ScanP w s) w' := by
  intro w' i' acc f hf hS F
  obtain ⟨l, B, _⟩ := hS
  refine fault_ret hmb B (M2.fr F (fun h => by unfold bh at h; omega)) fun w'' G => ?_
  unfold ScanP
  rw [hf]
  exact ⟨rfl, fin F G⟩
 refine join0_ok (fun w' => ∃ acc, scan (bl s) = .ok (acc ++ [⟨0, [], s.size⟩]) ∧ acc.length ≤ s.size ∧ St w' b s s.size acc 0 0 ∧ Fr (bh b) w2 w') (fun k5 hk5 => ?_) ?_
 ·refine loop0_ok (fun m w' => ∃ (j : Nat) (acc : List Tok), m = s.size - j ∧ j ≤ s.size ∧ acc.length ≤ j ∧ St w' b s j acc 0 0 ∧ Fr (bh b) w2 w' ∧ scan (bl s) = scanL j ((bl s).drop j) acc) (fun m rec w3 hI hrec => ?_) (n := s.size) ⟨0, [], rfl, Nat.zero_le _, Nat.le_refl _, S2, Fr.refl _ _, hscan⟩
  obtain ⟨j, acc, rfl, hj, hacc, S3, F3, hq⟩ := hI
  refine join_in ?_
  obtain ⟨l, B3, hown3⟩ := S3
  refine callU8_ok (peek_ok (k := 0) B3 (by omega) (by omega)) fun w4 F4 => ?_
  have S4 : St w4 b s j acc 0 0 := St.fr ⟨l, B3, hown3⟩ F4
  have B4 := B3.fr F4 (fun h => h)
  have F24 := F3.sq (F4.up b)
  rw [Nat.add_zero]
  cases hrem : (bl s).drop j with
  | nil =>
   have hjs : j = s.size := by have := List.drop_eq_nil_iff.1 hrem; omega
   subst hjs
   refine join_in (B4.ld (o := 1) rfl (ite_yes (by simp) (hk5 _ ⟨acc, ?_, hacc, S4, F24⟩)))
   rw [hq, hrem, scanL_nil]
  | cons c r =>
   obtain ⟨hc, hdr, hlt⟩ := drop_cons_getD hrem
   rw [hsl] at hlt
   rw [hc]
   rw [hrem] at hq
   have hrl : (c :: r).length = s.size - j := by rw [← hrem, List.length_drop, hsl]
   refine join0_ok (fun w' => Lex.blank c = false ∧ ¬ (c = 45 ∧ r.head? = some 45) ∧ St w' b s j acc 0 0 ∧ Fr (bh b) w2 w') (fun k9 hk9 => ?_) ?_
   ·refine B4.ld (o := 1) rfl (ite_no (by rw [beq_eq_false_iff_ne]; omega) ?_)
    refine join1_ok (c := .bool) (fun (x : Bool) w' => x = Lex.blank c ∧ w' = w4) (fun kb hkb => ?_) ?_
    ·rw [u8_lit c 32 (z := 32) rfl, u8_lit c 10 (z := 10) rfl, u8_lit c 9 (z := 9) rfl, u8_lit c 13 (z := 13) rfl]
     unfold Lex.blank at hkb
     generalize (c == 32) = x1 at *
     generalize (c == 10) = x2 at *
     generalize (c == 9) = x3 at *
     generalize (c == 13) = x4 at *
     exact ite_ok (fun h => hkb _ _ ⟨by rw [h]; rfl, rfl⟩) fun h => ite_ok (fun h2 => hkb _ _ ⟨by rw [h, h2]; rfl, rfl⟩) fun h2 => ite_ok (fun h3 => hkb _ _ ⟨by rw [h, h2, h3]; rfl, rfl⟩) fun h3 => hkb _ _ ⟨by rw [h, h2, h3]; rfl, rfl⟩
    rintro x w' ⟨rfl, hw⟩
    replace hw := hw.symm
    subst hw
    refine ite_ok (fun hbl => ?_) fun hbl => ?_
    ·refine B4.ld (o := 1) rfl (B4.st (o := 1) rfl (by simp) fun w5 B5 F5 => hrec (s.size - (j + 1)) w5 (by omega) ⟨j + 1, acc, rfl, by omega, by omega, ⟨l, ?_, own_one (own_fr0 hown3 F4) F5⟩, F24.sq F5.one, ?_⟩)
     ·have ew : IntKind.wrap .i64 ((j : Int) + 1) = ((j + 1 : Nat) : Int) := by rw [wrap_ok (by omega) (by omega)]; omega
      rw [← ew]
      exact B5
     ·rw [hq, scanL_blank hbl, hdr]
    refine join1_ok (c := .bool) (fun (x : Bool) w' => (x = true ↔ (c = 45 ∧ r.head? = some 45)) ∧ Fr noB w4 w') (fun kb hkb => ?_) ?_
    ·rw [u8_lit c 45 (z := 45) rfl]
     refine ite_ok (fun h => callU8_ok (peek_ok (k := 1) B4 (by omega) (by omega)) fun w5 F5 => ?_) fun h => hkb _ _ ⟨?_, Fr.refl _ _⟩
     rotate_left
     ·have h : ¬ c = 45 := by simpa using h
      simp [h]
     have h : c = 45 := by simpa using h
     rw [u8_lit _ 45 (z := 45) rfl]
     refine hkb _ _ ⟨?_, F5⟩
     have hd1 : (bl s).getD (j + 1) 0 = (r.head?.getD 0) := by
      cases r with
      | nil => exact drop_nil_getD hdr
      | cons y r => exact (drop_cons_getD hdr).1
     rw [hd1, beq_iff_eq]
     cases r with
     | nil => simp [h]
     | cons y r => simp [h]
    rintro x w5 ⟨hx, F5⟩
    have B5 := B4.fr F5 (fun h => h)
    have S5 := S4.fr F5
    have F25 := F24.sq (F5.up b)
    refine ite_ok (fun h => ?_) fun h => hk9 _ ⟨hbl, (fun hh => by rw [hx.2 hh] at h; cases h), S5, F25⟩
    have hline := hx.1 h
    have hT := scanL_line (i := j) (acc := acc) hbl hline
    have hT1 : 1 ≤ (comment (c :: r)).length := by rw [hline.1]; exact comment_pos r
    have hT2 := ((c :: r).takeWhile_sublist (· != 10)).length_le
    refine B5.ld (o := 1) rfl (callS_ok (while_ok B5 (by omega) (by omega) pred_line) fun w6 ⟨B6, F6⟩ => ?_)
    rw [hrem] at B6
    change Blk w6 b _ (_ :: .int .i64 ((j + (comment (c :: r)).length : Nat) : Int) :: _) at B6
    have F26 := F25.sq F6.one
    refine B6.ld (o := 1) rfl (call_ok (whole_ok (i := j) (j := j + (comment (c :: r)).length) B6 (hg2.fr F26).glob (by omega) (by omega) (by unfold comment; omega)) ?_)
    intro en w7 hpost
    have etk : ((bl s).drop j).take (j + (comment (c :: r)).length - j) = comment (c :: r) := by
     rw [hrem, Nat.add_sub_cancel_left]
     exact (List.prefix_iff_eq_take.1 (List.takeWhile_prefix _)).symm
    rw [etk] at hpost
    have hown6 := own_one (own_fr0 (own_fr0 hown3 F4) F5) F6
    cases hu : utfBad (comment (c :: r)) with
    | some k =>
     rw [hu] at hpost hT
     obtain ⟨rfl, B7, F7⟩ := hpost
     refine ⟨((false, ()), ()), rfl, ?_⟩
     exact out (f := ⟨30, j + k⟩) (hq.trans hT) ⟨l, B7, own_one hown6 F7⟩ (F26.sq F7.one)
    | none =>
     rw [hu] at hpost hT
     obtain ⟨rfl, F7⟩ := hpost
     refine ⟨((true, ()), ()), rfl, ?_⟩
     refine hrec (s.size - (j + (comment (c :: r)).length)) w7 (by omega) ⟨j + (comment (c :: r)).length, acc, rfl, by unfold comment; omega, by omega, ⟨l, B6.fr F7 (fun h => h), own_fr0 hown6 F7⟩, F26.sq (F7.up b), ?_⟩
     rw [hq, hT, ← hrem, List.drop_drop]
   ·rintro w5 ⟨hbl, hln, S5, F25⟩
    have hT := scanL_tok (i := j) (acc := acc) hbl hln
    refine call_ok (token_ok S5 (hg2.fr F25) (by omega) hlt (by omega)) ?_
    intro en w6 hp
    unfold TokP at hp
    rw [hrem] at hp
    cases hf : first (c :: r) with
    | error f =>
     rw [hf] at hp hT
     obtain ⟨rfl, ⟨i', S6⟩, F6⟩ := hp
     refine ⟨((false, ()), ()), rfl, ?_⟩
     exact out (f := ⟨f.err, j + f.at'⟩) (hq.trans hT) S6 (F25.sq F6)
    | ok x =>
     obtain ⟨k, t, n⟩ := x
     have hpos := first_pos hf
     rw [hf] at hp hT
     obtain ⟨rfl, S6, F6⟩ := hp
     refine ⟨((true, ()), ()), rfl, ?_⟩
     refine hrec (s.size - (j + n)) w6 (by omega) ⟨j + n, _, rfl, by omega, by rw [List.length_append, List.length_singleton]; omega, S6, F25.sq F6, ?_⟩
     rw [hq, hT, ← hrem]
     simp only [List.drop_drop]
 rintro w3 ⟨acc, hsc, hacc, ⟨l, B3, hown3⟩, F3⟩
 have M3 := M2.fr F3 (fun h => by unfold bh at h; omega)
 refine B3.ldS (o := 2) rfl (new_ok fun w4 m31 hm31 hs4 B31 F4 => ?_)
 have hown4 := own_fr0 hown3 F4
 have B4 := B3.fr F4 (fun h => h)
 have M4 := M3.fr F4 (fun h => h)
 obtain ⟨ti, z, hi, hz, h1, h2, h3⟩ := rTok
 have hb4 := B4.lt
 refine appendC_ok uToks hi hz h1 h2 (by rw [h3]; rfl) (by omega) (s := l) hown4 (m := 1) (news := [.int .i64 0, .string ⟨#[]⟩, .int .i64 (s.size : Int)]) rfl (B31.held fun j v hj => by rw [Nat.zero_add]; exact hj)
  (fun u hu => by simp only [List.mem_cons, List.not_mem_nil, or_false] at hu; rcases hu with rfl | rfl | rfl <;> rfl) (by unfold maxLen; omega) (by omega) (by omega) fun l' w5 hown5 F5 => ?_
 have M5 := M4.fr F5 (fun h => own_ne hown4 M4 (by decide) _ h rfl)
 refine M5.st (o := 0) rfl (by simp) fun w6 M6 F6 => M6.st (o := 1) rfl (by simp) fun w7 M7 F7 => M7.ld (o := 0) rfl (M7.ld (o := 1) rfl ?_)
 show ScanP w s _ _
 unfold ScanP
 rw [hsc]
 refine ⟨⟨l', rfl, ?_⟩, fin ((F3.sq (F4.up b)).then F5 fun y hy h => ?_) (F6.sq F7)⟩
 ·rw [List.length_append, List.flatMap_append]
  have := own_fr (own_fr hown5 F6 fun k hk e => own_ne hown5 M5 (by decide) _ hk e.symm) F7 fun k hk e => by
   have := own_ne hown5 M5 (by decide) _ hk
   exact this e.symm
  have := own_mono this (base' := w.heap.size) (by omega)
  simpa [tokCells, bs] using this
 ·have := (hown4.lt y h).1
  unfold bh
  omega
end
end Go.Proofs.YtngfnokbdcjoeaaGreatDoor
end
section
namespace Go.Lift
theorem fr_growN (w : World) (n : Nat) (os : Array Obj) : Fr noB w (Go.Sort.grow (w.drewN n) os) := ⟨rfl, rfl, by simp [Go.Sort.grow], fun k hk _ => by
 show (w.heap ++ os)[k]? = _
 rw [Array.getElem?_append_left hk]⟩
theorem tab_fr {P : Program} {w w' : World} {n : String} {k : IntKind} {zs : List Int} (h : Lib.TabIs P w n k zs) (F : Fr noB w w') : Lib.TabIs P w' n k zs := by
 unfold Lib.TabIs World.var? at *
 cases hg : P.globalNamed n with
 | none => simp [hg] at h
 | some g =>
  simp only [hg, Option.bind_some] at h ⊢
  have hlt : g < w.heap.size := by
   rcases Nat.lt_or_ge g w.heap.size with h' | h'
   ·exact h'
   ·rw [Array.getElem?_eq_none h'] at h; cases h
  rw [F.blk g hlt (fun h => h)]
  exact h
end Go.Lift
namespace Go.Proofs.YtngfnokbdcjoeaaGreatDoor
open Go.Lift Go.Lex
structure GlobV (w : World) : Prop extends Glob w where
 pow : Lib.TabIs Tryz.prog w "internal/strconv.uint64pow10" .u64 Lib.pow10Tab
theorem GlobV.frV {w w' : World} (h : GlobV w) (F : Fr noB w w') : GlobV w' := ⟨h.toGlob.fr F, tab_fr h.pow F⟩
end Go.Proofs.YtngfnokbdcjoeaaGreatDoor
end
section
namespace Go.Proofs.YtngfnokbdcjoeaaGreatDoor
open Go.Lift Go.Lex
theorem first_eq : Go.Pinned.utf8First = Lib.firstData := by kernel_rfl
theorem accept_eq : (Rows.laid_unicode_utf8_acceptRanges : DataW Unit) = Lib.acceptData := by kernel_rfl
theorem globs0 {W : World} (hL : laidMetH Tryz.prog Rows.valueChecksRow.laid W) (hS : W.ShapedOpen Tryz.prog) : Glob W := by
 have hL := hL
 rw [MakeChecks.laidMetH_plain _ _ _ (by kernel_rfl)] at hL
 refine ⟨Go.Proofs.cell_of_shapedOpen_int (zero := #[.int .i64 0]) (t := 3) hS (of_decide_eq_true (by kernel_rfl)) (by kernel_rfl) rfl (by kernel_rfl) (by kernel_rfl) Tryz.underlying3, ?_⟩
 refine utf8Tabs_of_reads Tryz.lays260 ⟨by kernel_rfl, by kernel_rfl, by kernel_rfl, by kernel_rfl, by kernel_rfl, by kernel_rfl, by kernel_rfl⟩ ?_ ?_
 ·rw [← first_eq]
  exact Lib.laidMet.reads hL (List.mem_of_getElem? (i := 6) rfl)
 ·rw [← accept_eq]
  exact Lib.laidMet.reads hL (List.mem_of_getElem? (i := 3) rfl)
theorem tab_of_reads {P : Program} {W : World} {name : String} {k : IntKind} {zs : List Int} {g : Nat} {t e : TypeId} {n : Nat}
  (hg : P.globalNamed name = some g) (hty : (P.globals[g]?).map (·.type) = some t) (ht : P.underlying t = some (.array n e)) (he : P.underlying e = some (.int k)) (hce : P.cellsOf e = 1) (hct : P.cellsOf t = n)
  (h : Lib.VarReads P W name (Lib.tabData k zs)) : Lib.TabIs P W name k zs := by
 obtain ⟨g', t', cs, fuel, p, hg', ht', hvar, hd⟩ := h
 obtain rfl := Option.some.inj (hg.symm.trans hg')
 obtain rfl := Option.some.inj (hty.symm.trans ht')
 unfold Lib.TabIs
 rw [hvar, ← Lib.cells_of_tab ht he hce hct hd]
theorem pow_eq : (Rows.laid_internal_strconv_uint64pow10 : DataW Unit) = Lib.tabData .u64 Lib.pow10Tab := by kernel_rfl
theorem globs {W : World} (hL : laidMetH Tryz.prog Rows.valueChecksRow.laid W) (hS : W.ShapedOpen Tryz.prog) : GlobV W := by
 refine ⟨globs0 hL hS, ?_⟩
 rw [MakeChecks.laidMetH_plain _ _ _ (by kernel_rfl)] at hL
 have h := Lib.laidMet.reads hL (List.mem_of_getElem? (i := 2) rfl)
 rw [pow_eq] at h
 exact tab_of_reads (g := 1) (t := 167) (e := 130) (n := 20) (by kernel_rfl) (by kernel_rfl) (by kernel_rfl) (by kernel_rfl) (by kernel_rfl) (by kernel_rfl) h
noncomputable def doorWorld (os : Os) : World :=
 let w0 := World.doorLaid Tryz.prog 72 os
 { w0 with heap := w0.heap.modify 2 fun
   | .cells _ t frozen => .cells (Lib.firstTab.map fun z => Value.int .u8 z).toArray t frozen
   | o => o }
theorem door_met (os : Os) (args : Array Value) : laidMetH Tryz.prog Rows.valueChecksRow.laid ((doorWorld os).forCall (fun _ _ => 0) ⟨#[], args, []⟩).memory :=
 laidMetH_of_parts3 (fuel := 8) (laidMet_of_run' 8 (by kernel_rfl) (by kernel_rfl)) (by kernel_rfl) (by kernel_rfl)
end Go.Proofs.YtngfnokbdcjoeaaGreatDoor
end
section
namespace Go.Shp
open Go.Lex
inductive Shape where
 | mk (kind : Int) (of name : B) (names : List B) (parts : List Shape)
def Shape.kind : Shape → Int | .mk k _ _ _ _ => k
def Shape.of : Shape → B | .mk _ o _ _ _ => o
def Shape.name : Shape → B | .mk _ _ n _ _ => n
def Shape.names : Shape → List B | .mk _ _ _ ns _ => ns
def Shape.parts : Shape → List Shape | .mk _ _ _ _ ps => ps
mutual
def size : Shape → Nat
 | .mk _ _ _ _ ps => 1 + sizes ps
def sizes : List Shape → Nat
 | [] => 0
 | s :: r => size s + sizes r
end
mutual
def deep : Shape → Nat
 | .mk _ _ _ _ ps => 1 + deeps ps
def deeps : List Shape → Nat
 | [] => 0
 | s :: r => max (deep s) (deeps r)
end
def plainT (s : B) : Bool := s == [73, 110, 116] || s == [66, 111, 111, 108] || s == [84, 101, 120, 116] || s == [65, 110, 121]
def namedOk (ns : List B) (n : Nat) : Bool := decide (ns.length = n) && ns.all isName && decide ns.Nodup
def fits : Shape → Bool
 | .mk k of nm ns ps =>
  if k = 1 ∨ k = 2 ∨ k = 3 ∨ k = 4 then of.isEmpty && nm.isEmpty && ns.isEmpty && ps.isEmpty
  else if k = 5 then of.isEmpty && nm.isEmpty && ns.isEmpty && decide (ps.length = 1)
  else if k = 6 ∨ k = 7 then of.isEmpty && nm.isEmpty && namedOk ns ps.length
  else if k = 8 then of.isEmpty && nm.isEmpty && ns.isEmpty && decide (0 < ps.length)
  else if k = 9 then isUpper nm && ((of.isEmpty && !plainT nm) || isName of) && ns.isEmpty && ps.isEmpty
  else if k = 10 then isUpper nm && isName of && ns.isEmpty && ps.isEmpty
  else false
mutual
def allFit : Shape → Bool
 | .mk k o n ns ps => fits (.mk k o n ns ps) && allFits ps
def allFits : List Shape → Bool
 | [] => true
 | s :: r => allFit s && allFits r
end
def check (s : Shape) : Nat := if 400 < size s then 3 else if 40 < deep s then 91 else if allFit s then 0 else 70
def ltB (a b : B) : Bool := decide (Lib.compareBytes a b < 0)
def insertP (n : B) (p : Shape) : List (B × Shape) → List (B × Shape)
 | [] => [(n, p)]
 | (m, q) :: r => if ltB m n then (m, q) :: insertP n p r else (n, p) :: (m, q) :: r
def sortP : List (B × Shape) → List (B × Shape)
 | [] => []
 | (n, p) :: r => insertP n p (sortP r)
mutual
def sortS : Shape → Shape
 | .mk k o n ns ps =>
  if ns = [] then .mk k o n [] (sortL ps)
  else .mk k o n ((sortP (ns.zip (sortL ps))).map (·.1)) ((sortP (ns.zip (sortL ps))).map (·.2))
def sortL : List Shape → List Shape
 | [] => []
 | s :: r => sortS s :: sortL r
end
mutual
def eqS : Shape → Shape → Bool
 | .mk k o n ns ps, .mk k' o' n' ns' ps' => decide (k = k') && o == o' && n == n' && ns == ns' && eqL ps ps'
def eqL : List Shape → List Shape → Bool
 | [], [] => true
 | a :: r, b :: t => eqS a b && eqL r t
 | _, _ => false
end
def find : List B → List Shape → B → Option Shape
 | x :: ns, p :: ps, n => if x = n then some p else find ns ps n
 | _, _, _ => none
def withinF (f : Shape → Shape → Bool) (ns : List B) (ps : List Shape) (os : List B) (qs : List Shape) : Bool := match ns, ps with
 | n :: ns, p :: ps => (match find os qs n with
  | some q => f p q
  | none => false) && withinF f ns ps os qs
 | _, _ => true
end Go.Shp
end
section
namespace Go.Shp
open Go.Lex
theorem deep_mem : ∀ {l : List Shape} {s : Shape}, s ∈ l → deep s ≤ deeps l
 | x :: r, s, h => by
  unfold deeps
  rcases List.mem_cons.1 h with rfl | h
  ·exact Nat.le_max_left _ _
  ·exact Nat.le_trans (deep_mem h) (Nat.le_max_right _ _)
theorem size_mem : ∀ {l : List Shape} {s : Shape}, s ∈ l → size s ≤ sizes l
 | x :: r, s, h => by
  unfold sizes
  rcases List.mem_cons.1 h with rfl | h
  ·exact Nat.le_add_right _ _
  ·exact Nat.le_trans (size_mem h) (Nat.le_add_left _ _)
theorem deep_mk (k : Int) (o n : B) (ns : List B) (ps : List Shape) : deep (.mk k o n ns ps) = 1 + deeps ps := by rw [deep]
theorem size_mk (k : Int) (o n : B) (ns : List B) (ps : List Shape) : size (.mk k o n ns ps) = 1 + sizes ps := by rw [size]
theorem size_pos (s : Shape) : 1 ≤ size s := by cases s; rw [size_mk]; omega
theorem deep_pos (s : Shape) : 1 ≤ deep s := by cases s; rw [deep_mk]; omega
theorem sizes_len : ∀ l : List Shape, l.length ≤ sizes l
 | [] => Nat.le_refl _
 | s :: r => by
  have := sizes_len r
  have := size_pos s
  rw [sizes, List.length_cons]
  omega
mutual
theorem deep_size : ∀ s : Shape, deep s ≤ size s
 | .mk k o n ns ps => by
  have := deeps_sizes ps
  rw [deep_mk, size_mk]
  omega
theorem deeps_sizes : ∀ l : List Shape, deeps l ≤ sizes l
 | [] => Nat.le_refl _
 | s :: r => by
  have := deep_size s
  have := deeps_sizes r
  rw [deeps, sizes]
  omega
end
theorem find_mem : ∀ {ns : List B} {ps : List Shape} {n : B} {p : Shape}, find ns ps n = some p → p ∈ ps
 | [], _, _, _, h => by simp [find] at h
 | _ :: _, [], _, _, h => by simp [find] at h
 | x :: ns, q :: ps, n, p, h => by
  unfold find at h
  split at h
  ·cases h; exact List.mem_cons_self
  ·exact List.mem_cons_of_mem _ (find_mem h)
theorem withinF_congr {f g : Shape → Shape → Bool} {os : List B} {qs : List Shape} : ∀ {ns : List B} {ps : List Shape}, (∀ p ∈ ps, ∀ q ∈ qs, f p q = g p q) → withinF f ns ps os qs = withinF g ns ps os qs
 | [], _, _ => by simp [withinF]
 | _ :: _, [], _ => by simp [withinF]
 | n :: ns, p :: ps, h => by
  unfold withinF
  rw [withinF_congr fun p hp q hq => h p (List.mem_cons_of_mem _ hp) q hq]
  cases hf : find os qs n with
  | none => rfl
  | some q =>
   simp only []
   rw [h p List.mem_cons_self q (find_mem hf)]
end Go.Shp
end
section
namespace Go.Lift
open Go.Shp
mutual
def ShV (w : World) (k : Int) (o n : ByteArray) (ns ps : Sl) : Shape → Prop
 | .mk k' o' n' names parts => k = k' ∧ bl o = o' ∧ bl n = n' ∧ (RdS w ns (names.map bs) ∧ names.length < 4611686018427387904 ∧ ps.n = parts.length ∧ parts.length < 4611686018427387904 ∧ o.size < 4611686018427387904 ∧ n.size < 4611686018427387904 ∧ ∀ x ∈ names, x.length < 4611686018427387904) ∧ ShL w ps.a 0 parts
def ShL (w : World) (a : Option Addr) (i : Nat) : List Shape → Prop
 | [] => True
 | s :: r => (∃ (g off : Nat) (k : Int) (o n : ByteArray) (ns ps : Sl), a = some ⟨g, off, none⟩ ∧ w.cell? ⟨g, off + i * 5, none⟩ = some (.int .i64 k) ∧ w.cell? ⟨g, off + i * 5 + 1, none⟩ = some (.string o) ∧ w.cell? ⟨g, off + i * 5 + 2, none⟩ = some (.string n) ∧
   w.cell? ⟨g, off + i * 5 + 3, none⟩ = some (.slice ns.a ns.n ns.c) ∧ w.cell? ⟨g, off + i * 5 + 4, none⟩ = some (.slice ps.a ps.n ps.c) ∧ ShV w k o n ns ps s) ∧ ShL w a (i + 1) r
end
mutual
theorem ShV.fr {w w' : World} (F : Fr noB w w') : ∀ {s : Shape} {k : Int} {o n : ByteArray} {ns ps : Sl}, ShV w k o n ns ps s → ShV w' k o n ns ps s
 | .mk _ _ _ _ _, _, _, _, _, _, h => by
  unfold ShV at h ⊢
  exact ⟨h.1, h.2.1, h.2.2.1, ⟨h.2.2.2.1.1.fr F, h.2.2.2.1.2⟩, ShL.fr F h.2.2.2.2⟩
theorem ShL.fr {w w' : World} (F : Fr noB w w') : ∀ {l : List Shape} {a : Option Addr} {i : Nat}, ShL w a i l → ShL w' a i l
 | [], _, _, _ => by unfold ShL; trivial
 | s :: r, _, _, h => by
  unfold ShL at h ⊢
  obtain ⟨⟨g, off, k, o, n, ns, ps, h0, h1, h2, h3, h4, h5, h6⟩, hr⟩ := h
  exact ⟨⟨g, off, k, o, n, ns, ps, h0, F.cell h1 (fun h => h), F.cell h2 (fun h => h), F.cell h3 (fun h => h), F.cell h4 (fun h => h), F.cell h5 (fun h => h), ShV.fr F h6⟩, ShL.fr F hr⟩
end
theorem ShL.at {w : World} {a : Option Addr} : ∀ {l : List Shape} {i j : Nat} {s : Shape}, ShL w a i l → l[j]? = some s → ∃ (g off : Nat) (k : Int) (o n : ByteArray) (ns ps : Sl), a = some ⟨g, off, none⟩ ∧ w.cell? ⟨g, off + (i + j) * 5, none⟩ = some (.int .i64 k) ∧ w.cell? ⟨g, off + (i + j) * 5 + 1, none⟩ = some (.string o) ∧ w.cell? ⟨g, off + (i + j) * 5 + 2, none⟩ = some (.string n) ∧
   w.cell? ⟨g, off + (i + j) * 5 + 3, none⟩ = some (.slice ns.a ns.n ns.c) ∧ w.cell? ⟨g, off + (i + j) * 5 + 4, none⟩ = some (.slice ps.a ps.n ps.c) ∧ ShV w k o n ns ps s
 | [], _, _, _, _, hj => by simp at hj
 | x :: r, i, 0, s, h, hj => by
  unfold ShL at h
  simp only [List.getElem?_cons_zero, Option.some.injEq] at hj
  subst hj
  exact h.1
 | x :: r, i, j + 1, s, h, hj => by
  unfold ShL at h
  have := ShL.at h.2 (by simpa using hj)
  rw [show i + (j + 1) = i + 1 + j by omega]
  exact this
def shCells (k : Int) (o n : ByteArray) (ns ps : Sl) : List Value := [.int .i64 k, .string o, .string n, .slice ns.a ns.n ns.c, .slice ps.a ps.n ps.c]
@[reducible] def shArg (k : Int) (o n : ByteArray) (ns ps : Sl) : Value := .agg #[.int .i64 k, .string o, .string n, .slice ns.a ns.n ns.c, .slice ps.a ps.n ps.c]
section
variable {R : Ending → World → Prop} {w : World}
theorem part_ld {l : List Shape} {a : Option Addr} {len i : Nat} {s : Shape} {K : Int → ByteArray → ByteArray → Sl → Sl → G} (h : ShL w a 0 l) (hs : l[i]? = some s) (hl : len = l.length)
  (hk : ∀ k o n ns ps, ShV w k o n ns ps s → K k o n ns ps R w) :
  idxG a len (i : Int) 5 (fun (x : Addr) => ldG (.int .i64) (x.add 0) (fun (k : Int) => ldG .str (x.add 1) (fun (o : ByteArray) => ldG .str (x.add 2) (fun (n : ByteArray) => ldG .slice (x.add 3) (fun (ns : Sl) => ldG .slice (x.add 4) (fun (ps : Sl) => K k o n ns ps)))))) R w := by
 obtain ⟨g, off, k, o, n, ns, ps, rfl, c0, c1, c2, c3, c4, hv⟩ := h.at hs
 have hi := (List.getElem?_eq_some_iff.1 hs).1
 rw [Nat.zero_add] at c0 c1 c2 c3 c4
 refine idxB_ok (n := len) (i := i) (by omega) ?_
 simp only [Addr.add_lit, Nat.add_zero]
 exact ld_ok (c := .int .i64) c0 (ld_ok (c := .str) c1 (ld_ok (c := .str) c2 (ld_ok (c := .slice) (x := ns) c3 (ld_ok (c := .slice) (x := ps) c4 (hk k o n ns ps hv)))))
theorem ShV.parts {k : Int} {o n : ByteArray} {ns ps : Sl} {s : Shape} (h : ShV w k o n ns ps s) : k = s.kind ∧ bl o = s.of ∧ bl n = s.name ∧ (RdS w ns (s.names.map bs) ∧ s.names.length < 4611686018427387904 ∧ ps.n = s.parts.length ∧ s.parts.length < 4611686018427387904 ∧ o.size < 4611686018427387904 ∧ n.size < 4611686018427387904 ∧ ∀ x ∈ s.names, x.length < 4611686018427387904) ∧ ShL w ps.a 0 s.parts := by
 cases s
 unfold ShV at h
 exact h
end
end Go.Lift
end
section
namespace Go.Shp
open Go.Lex
theorem allFits_mem : ∀ {l : List Shape} {s : Shape}, allFits l = true → s ∈ l → allFit s = true
 | x :: r, s, h, hs => by
  unfold allFits at h
  rw [Bool.and_eq_true] at h
  rcases List.mem_cons.1 hs with rfl | hs
  ·exact h.1
  ·exact allFits_mem h.2 hs
theorem allFit_parts {k : Int} {o n : B} {ns : List B} {ps : List Shape} (h : allFit (.mk k o n ns ps) = true) : fits (.mk k o n ns ps) = true ∧ ∀ s ∈ ps, allFit s = true := by
 unfold allFit at h
 rw [Bool.and_eq_true] at h
 exact ⟨h.1, fun s hs => allFits_mem h.2 hs⟩
theorem check_ok {s : Shape} : check s = 0 ↔ size s ≤ 400 ∧ deep s ≤ 40 ∧ allFit s = true := by
 unfold check
 by_cases h1 : 400 < size s
 ·rw [if_pos h1]; simp; omega
 rw [if_neg h1]
 by_cases h2 : 40 < deep s
 ·rw [if_pos h2]; simp; omega
 rw [if_neg h2]
 cases h3 : allFit s with
 | true => simp; omega
 | false => simp
theorem withinF_iff {f : Shape → Shape → Bool} {os : List B} {qs : List Shape} : ∀ {ns : List B} {ps : List Shape}, withinF f ns ps os qs = true ↔ ∀ (i : Nat) (n : B) (p : Shape), ns[i]? = some n → ps[i]? = some p → ∃ q, find os qs n = some q ∧ f p q = true
 | [], ps => by
  refine ⟨fun _ i n p h => by simp at h, fun _ => by simp [withinF]⟩
 | n :: ns, [] => by
  refine ⟨fun _ i n p _ h => by simp at h, fun _ => by simp [withinF]⟩
 | n :: ns, p :: ps => by
  unfold withinF
  rw [Bool.and_eq_true, withinF_iff]
  constructor
  ·rintro ⟨h1, h2⟩ i m q hn hp
   cases i with
   | zero =>
    simp only [List.getElem?_cons_zero, Option.some.injEq] at hn hp
    subst hn hp
    cases hf : find os qs n with
    | none => rw [hf] at h1; cases h1
    | some x => rw [hf] at h1; exact ⟨x, rfl, h1⟩
   | succ i => exact h2 i m q (by simpa using hn) (by simpa using hp)
  ·intro h
   refine ⟨?_, fun i m q hn hp => h (i + 1) m q (by simpa using hn) (by simpa using hp)⟩
   obtain ⟨x, hx, hfx⟩ := h 0 n p rfl rfl
   rw [hx]
   exact hfx
theorem find_iff : ∀ {ns : List B} {ps : List Shape} {n : B} {p : Shape}, ns.Nodup → (find ns ps n = some p ↔ ∃ i : Nat, ns[i]? = some n ∧ ps[i]? = some p)
 | [], ps, n, p, _ => by simp [find]
 | x :: ns, [], n, p, _ => by simp [find]
 | x :: ns, q :: ps, n, p, h => by
  rw [List.nodup_cons] at h
  unfold find
  by_cases hx : x = n
  ·subst hx
   rw [if_pos rfl]
   constructor
   ·intro e
    cases e
    exact ⟨0, rfl, rfl⟩
   ·rintro ⟨i, h1, h2⟩
    cases i with
    | zero => simpa using h2
    | succ i => exact absurd (List.mem_of_getElem? (by simpa using h1)) h.1
  ·rw [if_neg hx, find_iff h.2]
   constructor
   ·rintro ⟨i, h1, h2⟩
    exact ⟨i + 1, by simpa using h1, by simpa using h2⟩
   ·rintro ⟨i, h1, h2⟩
    cases i with
    | zero => simp only [List.getElem?_cons_zero, Option.some.injEq] at h1; exact absurd h1 hx
    | succ i => exact ⟨i, by simpa using h1, by simpa using h2⟩
theorem find_none {ns : List B} {ps : List Shape} {n : B} (hl : ns.length = ps.length) : find ns ps n = none ↔ n ∉ ns := by
 induction ns generalizing ps with
 | nil => simp [find]
 | cons x ns ih =>
  cases ps with
  | nil => simp at hl
  | cons q ps =>
   unfold find
   by_cases hx : x = n
   ·subst hx; simp
   ·rw [if_neg hx, ih (by simpa using hl)]
    simp only [List.mem_cons, not_or]
    exact ⟨fun h => ⟨fun e => hx e.symm, h⟩, fun h => h.2⟩
end Go.Shp
end
section
namespace Go.Shp
open Go.Lex Go.Lib
theorem u8lt (a b : UInt8) : a < b ↔ a.toNat < b.toNat := UInt8.lt_iff_toNat_lt
theorem cmp_self : ∀ a : B, compareBytes a a = 0
 | [] => rfl
 | a :: r => by
  unfold compareBytes
  rw [if_neg (by rw [u8lt]; omega), if_neg (by rw [u8lt]; omega)]
  exact cmp_self r
theorem cmp_neg : ∀ a b : B, compareBytes b a = -compareBytes a b
 | [], [] => rfl
 | [], _ :: _ => rfl
 | _ :: _, [] => rfl
 | a :: r, b :: t => by
  unfold compareBytes
  by_cases h1 : a < b
  ·have h2 : ¬ b < a := by rw [u8lt] at *; omega
   rw [if_pos h1, if_neg h2, if_pos h1]
   rfl
  ·rw [if_neg h1]
   by_cases h2 : b < a
   ·rw [if_pos h2, if_pos h2, if_neg h1]
   ·rw [if_neg h2, if_neg h2, if_neg h1]
    exact cmp_neg r t
theorem cmp_val : ∀ a b : B, compareBytes a b = -1 ∨ compareBytes a b = 0 ∨ compareBytes a b = 1
 | [], [] => .inr (.inl rfl)
 | [], _ :: _ => .inl rfl
 | _ :: _, [] => .inr (.inr rfl)
 | a :: r, b :: t => by
  unfold compareBytes
  split
  ·exact .inl rfl
  split
  ·exact .inr (.inr rfl)
  ·exact cmp_val r t
theorem cmp_zero : ∀ {a b : B}, compareBytes a b = 0 → a = b
 | [], [], _ => rfl
 | [], _ :: _, h => by simp [compareBytes] at h
 | _ :: _, [], h => by simp [compareBytes] at h
 | a :: r, b :: t, h => by
  unfold compareBytes at h
  split at h
  ·simp at h
  split at h
  ·simp at h
  ·rename_i h1 h2
   have : a = b := by
    rw [u8lt] at h1 h2
    exact UInt8.toNat_inj.1 (by omega)
   rw [this, cmp_zero h]
theorem cmp_trans : ∀ {a b c : B}, compareBytes a b < 0 → compareBytes b c < 0 → compareBytes a c < 0
 | [], [], _, h, _ => by simp [compareBytes] at h
 | _ :: _, [], _, h, _ => by simp [compareBytes] at h
 | _, _ :: _, [], _, h => by simp [compareBytes] at h
 | [], _ :: _, _ :: _, _, _ => by simp [compareBytes]
 | a :: r, b :: t, c :: u, h1, h2 => by
  unfold compareBytes at h1 h2 ⊢
  by_cases e1 : a < b
  ·by_cases e2 : b < c
   ·rw [if_pos (by rw [u8lt] at *; omega)]; decide
   ·rw [if_neg e2] at h2
    by_cases e3 : c < b
    ·rw [if_pos e3] at h2; simp at h2
    ·rw [if_pos (by rw [u8lt] at *; omega)]; decide
  ·rw [if_neg e1] at h1
   by_cases e3 : b < a
   ·rw [if_pos e3] at h1; simp at h1
   ·rw [if_neg e3] at h1
    by_cases e2 : b < c
    ·rw [if_pos (by rw [u8lt] at *; omega)]; decide
    ·rw [if_neg e2] at h2
     by_cases e4 : c < b
     ·rw [if_pos e4] at h2; simp at h2
     ·rw [if_neg e4] at h2
      rw [if_neg (by rw [u8lt] at *; omega), if_neg (by rw [u8lt] at *; omega)]
      exact cmp_trans h1 h2
theorem ltB_trans {a b c : B} (h1 : ltB a b = true) (h2 : ltB b c = true) : ltB a c = true := decide_eq_true (cmp_trans (of_decide_eq_true h1) (of_decide_eq_true h2))
theorem ltB_irr (a : B) : ltB a a = false := decide_eq_false (by rw [cmp_self]; omega)
theorem ltB_tri {a b : B} (h : a ≠ b) (h1 : ltB a b = false) : ltB b a = true := by
 have h1 := of_decide_eq_false h1
 refine decide_eq_true ?_
 rw [cmp_neg]
 have := cmp_val a b
 have h0 : compareBytes a b ≠ 0 := fun e => h (cmp_zero e)
 omega
def Up (l : List (B × Shape)) : Prop := l.Pairwise fun x y => ltB x.1 y.1 = true
theorem insertP_mem {n : B} {p : Shape} : ∀ {l : List (B × Shape)} {x : B × Shape}, x ∈ insertP n p l ↔ x = (n, p) ∨ x ∈ l
 | [], x => by simp [insertP]
 | (m, q) :: r, x => by
  unfold insertP
  split
  ·rw [List.mem_cons, insertP_mem, List.mem_cons]
   constructor
   ·rintro (h | h | h)
    ·exact .inr (.inl h)
    ·exact .inl h
    ·exact .inr (.inr h)
   ·rintro (h | h | h)
    ·exact .inr (.inl h)
    ·exact .inl h
    ·exact .inr (.inr h)
  ·rw [List.mem_cons, List.mem_cons]
theorem insertP_perm (n : B) (p : Shape) : ∀ l : List (B × Shape), (insertP n p l).Perm ((n, p) :: l)
 | [] => List.Perm.refl _
 | (m, q) :: r => by
  unfold insertP
  split
  ·exact ((insertP_perm n p r).cons _).trans (List.Perm.swap _ _ _)
  ·exact List.Perm.refl _
theorem sortP_perm : ∀ l : List (B × Shape), (sortP l).Perm l
 | [] => List.Perm.refl _
 | (n, p) :: r => by
  unfold sortP
  exact (insertP_perm n p _).trans ((sortP_perm r).cons _)
theorem insertP_up {n : B} {p : Shape} : ∀ {l : List (B × Shape)}, Up l → (∀ x ∈ l, x.1 ≠ n) → Up (insertP n p l)
 | [], _, _ => List.pairwise_singleton _ _
 | (m, q) :: r, h, hn => by
  unfold Up at h ⊢
  rw [List.pairwise_cons] at h
  unfold insertP
  split
  ·rename_i hlt
   rw [List.pairwise_cons]
   refine ⟨fun x hx => ?_, insertP_up h.2 fun x hx => hn x (List.mem_cons_of_mem _ hx)⟩
   rcases insertP_mem.1 hx with rfl | hx
   ·exact hlt
   ·exact h.1 x hx
  ·rename_i hlt
   have hlt : ltB m n = false := by simpa using hlt
   have hnm := ltB_tri (hn _ List.mem_cons_self) hlt
   rw [List.pairwise_cons, List.pairwise_cons]
   refine ⟨fun x hx => ?_, h.1, h.2⟩
   rcases List.mem_cons.1 hx with rfl | hx
   ·exact hnm
   ·exact ltB_trans hnm (h.1 x hx)
theorem sortP_up : ∀ {l : List (B × Shape)}, (l.map (·.1)).Nodup → Up (sortP l)
 | [], _ => List.Pairwise.nil
 | (n, p) :: r, h => by
  rw [List.map_cons, List.nodup_cons] at h
  unfold sortP
  refine insertP_up (sortP_up h.2) fun x hx e => h.1 ?_
  have := (sortP_perm r).mem_iff.1 hx
  exact List.mem_map.2 ⟨x, this, e⟩
theorem up_unique : ∀ {l m : List (B × Shape)}, Up l → Up m → l.Perm m → l = m
 | [], m, _, _, h => (List.nil_perm.1 h).symm
 | x :: l, [], _, _, h => by have := h.length_eq; simp at this
 | x :: l, y :: m, hl, hm, h => by
  unfold Up at hl hm
  rw [List.pairwise_cons] at hl hm
  have hxy : x = y := by
   have hx : x ∈ y :: m := h.mem_iff.1 List.mem_cons_self
   have hy : y ∈ x :: l := h.mem_iff.2 List.mem_cons_self
   rcases List.mem_cons.1 hx with e | hx
   ·exact e
   rcases List.mem_cons.1 hy with e | hy
   ·exact e.symm
   have h1 := hl.1 y hy
   have h2 := hm.1 x hx
   have := ltB_trans h1 h2
   rw [ltB_irr] at this
   cases this
  subst hxy
  rw [up_unique hl.2 hm.2 (List.Perm.cons_inv h)]
theorem up_sortP {l m : List (B × Shape)} (hn : (l.map (·.1)).Nodup) (hm : Up m) (h : m.Perm l) : m = sortP l := up_unique hm (sortP_up hn) (h.trans (sortP_perm l).symm)
end Go.Shp
end
section
namespace Go.Shp
open Go.Lex
theorem fits_named {k : Int} {o n : B} {ns : List B} {ps : List Shape} (h : fits (.mk k o n ns ps) = true) (hk : k = 6 ∨ k = 7) : ns.length = ps.length ∧ ns.Nodup := by
 unfold fits at h
 simp only [] at h
 rw [if_neg (by omega), if_neg (by omega), if_pos hk] at h
 unfold namedOk at h
 simp only [Bool.and_eq_true, decide_eq_true_eq] at h
 exact ⟨h.2.1.1, h.2.2⟩
end Go.Shp
end
section
namespace Go.Shp
open Go.Lex
theorem sortL_map : ∀ l : List Shape, sortL l = l.map sortS
 | [] => by rw [sortL]; rfl
 | s :: r => by rw [sortL, sortL_map r]; rfl
theorem sortS_nil (k : Int) (o n : B) (ps : List Shape) : sortS (.mk k o n [] ps) = .mk k o n [] (ps.map sortS) := by rw [sortS, if_pos rfl, sortL_map]
def pairs (ns : List B) (ps : List Shape) : List (B × Shape) := sortP (ns.zip (ps.map sortS))
theorem sortS_cons {k : Int} {o n : B} {ns : List B} {ps : List Shape} (h : ns ≠ []) : sortS (.mk k o n ns ps) = .mk k o n ((pairs ns ps).map (·.1)) ((pairs ns ps).map (·.2)) := by rw [sortS, if_neg h, sortL_map]; rfl
theorem zip_fst {α β : Type} : ∀ {l : List α} {m : List β}, l.length = m.length → (l.zip m).map (·.1) = l
 | [], [], _ => rfl
 | [], _ :: _, h => by simp at h
 | _ :: _, [], h => by simp at h
 | a :: l, b :: m, h => by
  rw [List.zip_cons_cons, List.map_cons, zip_fst (by simpa using h)]
theorem pairs_names {ns : List B} {ps : List Shape} (h : ns.length = ps.length) : ((pairs ns ps).map (·.1)).Perm ns := by
 have := (sortP_perm (ns.zip (ps.map sortS))).map (·.1)
 rw [zip_fst (by simpa using h)] at this
 exact this
mutual
theorem eqS_eq : ∀ {a b : Shape}, eqS a b = true → a = b
 | .mk k o n ns ps, .mk k' o' n' ns' ps', h => by
  unfold eqS at h
  simp only [Bool.and_eq_true, decide_eq_true_eq, beq_iff_eq] at h
  obtain ⟨⟨⟨⟨rfl, rfl⟩, rfl⟩, rfl⟩, h⟩ := h
  rw [eqL_eq h]
theorem eqL_eq : ∀ {a b : List Shape}, eqL a b = true → a = b
 | [], [], _ => rfl
 | [], _ :: _, h => by simp [eqL] at h
 | _ :: _, [], h => by simp [eqL] at h
 | a :: r, b :: t, h => by
  unfold eqL at h
  rw [Bool.and_eq_true] at h
  rw [eqS_eq h.1, eqL_eq h.2]
end
end Go.Shp
end
section

end
section
namespace Go.Shp
theorem deeps_take {l : List Shape} {i : Nat} {s : Shape} (h : l[i]? = some s) : deeps (l.take (i + 1)) = max (deeps (l.take i)) (deep s) := by
 induction l generalizing i with
 | nil => simp at h
 | cons x r ih =>
  cases i with
  | zero =>
   simp only [List.getElem?_cons_zero, Option.some.injEq] at h
   subst h
   simp [deeps]
  | succ i =>
   have := ih (i := i) (by simpa using h)
   rw [List.take_succ_cons, List.take_succ_cons, deeps, deeps, this]
   omega
end Go.Shp
namespace Go.Proofs.YtngfnokbdcjoeaaGreatDoor
open Go.Lift Go.Lex Go.Shp
end Go.Proofs.YtngfnokbdcjoeaaGreatDoor
end
