/- The law behind: one part of its proof (joined by program out of my own texts). No condition. -/
import Derived.Test.YticokfpaoiekgaaGreatDoorFdrAY
import Derived.RangeFuncBox
import Derived.RangeFuncLeaves
import Derived.Shelf.Abstract
import Derived.WalkKit
import Derived.OwnWalkIn
import Derived.TacticsInMore
import Derived.LoopNIn
import Derived.LoopIn
import Derived.Maps.AppendAt
import Derived.Test.YticokfpaoiekgaaGreatDoorChecked
section
namespace Go.Proofs.YticokfpaoiekgaaGreatDoor
open Go.Lift Go.Lex Go.Shp Go.Prs
section
variable {R : Ending → World → Prop} {w wi : World} {mX m1 m2 m3 p : Nat} {k : Int} {ns ps : Sl} {names : List B} {Q : List Shape} {sl : Sl} {l : List Tok} {s s1 s' : PS} {t : Tok}
structure PSt (w : World) (p : Nat) (sl : Sl) (l : List Tok) (t : Tok) (m1 m2 m3 m9 : Nat) (k : Int) (ns ps : Sl) (names : List B) (Q : List Shape) (s' : PS) (wi : World) : Prop where
 I : Bld wi m9 m1 m3 p k ns ps names Q
 C : Cur wi p sl l s'
 F : Fr (oneB p) w wi
 M2 : ∃ l2, Blk wi m2 25 l2 ∧ l2.length = 5
 M9 : Blk wi m9 124 (tokCells t)
 ord : p < w.heap.size ∧ w.heap.size ≤ m1 ∧ m1 < m2 ∧ m2 < m3 ∧ m3 < m9
 lens : names.length ≤ 6000 ∧ Q.length ≤ 6000
variable {m9 : Nat}
theorem PSt.fr (h : PSt w p sl l t m1 m2 m3 m9 k ns ps names Q s1 wi) {w' : World} (F : Fr (oneB p) wi w') (C : Cur w' p sl l s') : PSt w p sl l t m1 m2 m3 m9 k ns ps names Q s' w' := by
 obtain ⟨o1, o2, o3, o4, o5⟩ := h.ord
 obtain ⟨l2, M2, hl2⟩ := h.M2
 exact ⟨h.I.fr F, C, st_fr h.F F, ⟨l2, M2.fr F (fun h => by change m2 = p at h; omega), hl2⟩, h.M9.fr F (fun h => by change m9 = p at h; omega), h.ord, h.lens⟩
theorem PSt.fr0 (h : PSt w p sl l t m1 m2 m3 m9 k ns ps names Q s' wi) {w' : World} (F : Fr noB wi w') : PSt w p sl l t m1 m2 m3 m9 k ns ps names Q s' w' := h.fr (F.mono fun _ _ h => h.elim) (h.C.fr0 F)
theorem PSt.go {k' : Int} {ns' ps' : Sl} {names' : List B} {Q' : List Shape} (h : PSt w p sl l t m1 m2 m3 m9 k ns ps names Q s1 wi) {w' : World} (F : Fr (fun b => b = p ∨ b = m3 ∨ m9 < b) wi w') (I : Bld w' m9 m1 m3 p k' ns' ps' names' Q') (C : Cur w' p sl l s') (hl : names'.length ≤ 6000 ∧ Q'.length ≤ 6000) : PSt w p sl l t m1 m2 m3 m9 k' ns' ps' names' Q' s' w' := by
 obtain ⟨o1, o2, o3, o4, o5⟩ := h.ord
 obtain ⟨l2, M2, hl2⟩ := h.M2
 exact ⟨I, C, h.F.then F fun x hx h => by
  rcases h with h | h | h
  ·exact h
  ·omega
  ·omega, ⟨l2, M2.fr F (by rintro (h | h | h) <;> omega), hl2⟩, h.M9.fr F (by rintro (h | h | h) <;> omega), h.ord, hl⟩
theorem ret_ok (h : PSt w p sl l t m1 m2 m3 m9 k ns ps names Q s' wi) {kq : Int} {oq nq : ByteArray} {nsq psq : Sl} {q : Shape} (hv : ∀ w'', Fr (fun b => b = m2 ∨ b < w.heap.size) wi w'' → ShV w'' kq oq nq nsq psq q) :
  stG ⟨m2, 0, none⟩ (.int .i64 kq) (stG ⟨m2, 1, none⟩ (.string oq) (stG ⟨m2, 2, none⟩ (.string nq) (stG ⟨m2, 3, none⟩ (.slice nsq.a nsq.n nsq.c) (stG ⟨m2, 4, none⟩ (.slice psq.a psq.n psq.c) (ldG (.int .i64) ⟨m2, 0, none⟩ (fun (k : Int) => ldG .str ⟨m2, 1, none⟩ (fun (o : ByteArray) => ldG .str ⟨m2, 2, none⟩ (fun (n : ByteArray) => ldG .slice ⟨m2, 3, none⟩ (fun (ns : Sl) => ldG .slice ⟨m2, 4, none⟩ (fun (ps : Sl) => retG (shArg k o n ns ps))))))))))) (ParP w p sl l q s') wi := by
 obtain ⟨o1, o2, o3, o4, o5⟩ := h.ord
 obtain ⟨l2, M2, hl2⟩ := h.M2
 refine fill_ok M2 hl2 rfl rfl rfl rfl rfl fun w2 B2 F2 => ?_
 change Blk w2 m2 _ (shCells kq oq nq nsq psq) at B2
 refine B2.ldV ⟨kq, oq, nq, nsq, psq, rfl, h.C.fr F2 (fun b hb h => by change b = m2 at h; omega), h.F.then F2 fun x hx h => by change x = m2 at h; omega, fun w'' F'' => hv w'' ((F2.trans F'').mono fun x hx h => ?_)⟩
 exact h.elim (fun h => .inl h) fun h => .inr h.1
theorem PSt.val (h : PSt w p sl l t m1 m2 m3 m9 k ns ps names Q s' wi) {w'' : World} (FX : Fr (fun b => b = m2 ∨ b < w.heap.size) wi w'') : ShV w'' k eB eB ns ps (.mk k [] [] names Q) := by
 obtain ⟨o1, o2, o3, o4, o5⟩ := h.ord
 obtain ⟨V, oP, sP⟩ := h.I.row
 have hln := h.lens
 have oN2 : w''.ownsRow 0 9 1 (.slice ns.a ns.n ns.c) names.length (names.map fun x => Value.string (bs x)) := own_cells h.I.ownN FX fun a ha hh => by
  have := (h.I.belN a ha).1
  rcases hh with hh | hh <;> omega
 have oP2 : w''.ownsRow 0 25 5 (.slice ps.a ps.n ps.c) V.length (V.flatMap tvCells) := own_cells oP FX fun a ha hh => by
  have := (h.I.belP a ha).1
  rcases hh with hh | hh <;> omega
 obtain ⟨hpn, hsl⟩ := shL_own oP2 sP.1 fun j v q hv hq => sP.2 j v q hv hq w'' (FX.mono fun x hx hh => .inl (by rcases hh with hh | hh <;> omega))
 unfold ShV
 exact ⟨rfl, rfl, rfl, ⟨rds_own (l := ns) (N := names) oN2, by omega, hpn, by omega, by decide, by decide, h.I.nz⟩, hsl⟩
theorem PSt.fin (h : PSt w p sl l t m1 m2 m3 m9 k ns ps names Q s' wi) :
  ldG (.int .i64) ⟨m3, 0, none⟩ (fun (k : Int) => ldG .str ⟨m3, 1, none⟩ (fun (o : ByteArray) => ldG .str ⟨m3, 2, none⟩ (fun (n : ByteArray) => ldG .slice ⟨m3, 3, none⟩ (fun (ns : Sl) => ldG .slice ⟨m3, 4, none⟩ (fun (ps : Sl) => stG ⟨m2, 0, none⟩ (.int .i64 k) (stG ⟨m2, 1, none⟩ (.string o) (stG ⟨m2, 2, none⟩ (.string n) (stG ⟨m2, 3, none⟩ (.slice ns.a ns.n ns.c) (stG ⟨m2, 4, none⟩ (.slice ps.a ps.n ps.c)
   (ldG (.int .i64) ⟨m2, 0, none⟩ (fun (k : Int) => ldG .str ⟨m2, 1, none⟩ (fun (o : ByteArray) => ldG .str ⟨m2, 2, none⟩ (fun (n : ByteArray) => ldG .slice ⟨m2, 3, none⟩ (fun (ns : Sl) => ldG .slice ⟨m2, 4, none⟩ (fun (ps : Sl) => retG (shArg k o n ns ps)))))))))))))))) (ParP w p sl l (.mk k [] [] names Q) s') wi :=
 h.I.b3.ldV (ret_ok h fun w'' FX => h.val FX)
theorem PSt.kind (h : PSt w p sl l t m1 m2 m3 m9 k ns ps names Q s' wi) {k' : Int} {K : G} (hk : ∀ w', PSt w p sl l t m1 m2 m3 m9 k' ns ps names Q s' w' → Fr (oneB m3) wi w' → K R w') : stG ⟨m3, 0, none⟩ (.int .i64 k') K R wi := by
 obtain ⟨o1, o2, o3, o4, o5⟩ := h.ord
 obtain ⟨l1, l2, l3, l4, l5, l6⟩ := h.I.le
 obtain ⟨V, oP, sP⟩ := h.I.row
 obtain ⟨T, b1⟩ := h.I.b1
 refine h.I.b3.st (o := 0) rfl (by simp [shCells]) fun w2 B2 F2 => ?_
 change Blk w2 m3 _ (shCells k' eB eB ns ps) at B2
 refine hk w2 (h.go (F2.mono fun x _ h => .inr (.inl h)) ⟨⟨T, b1.fr F2 (fun h => by change m1 = m3 at h; omega)⟩, B2, ⟨l1, l2, l3, l4, l5, by have := F2.size; omega⟩, ⟨V, own_cells oP F2 fun a ha hh => ?_, sP.go (F2.mono fun x _ h => .inl (by change x = m3 at h; omega)) fun x _ h => h⟩, own_cells h.I.ownN F2 fun a ha hh => ?_, fun a ha => ?_, fun a ha => ?_, h.I.apart, h.I.nz⟩ (h.C.fr F2 fun b hb h => by change b = m3 at h; omega) h.lens) F2
 ·have := (h.I.belP a ha).1
  change a.block = m3 at hh
  omega
 ·have := (h.I.belN a ha).1
  change a.block = m3 at hh
  omega
 ·have := h.I.belN a ha
  have := F2.size
  omega
 ·have := h.I.belP a ha
  have := F2.size
  omega
end
end Go.Proofs.YticokfpaoiekgaaGreatDoor
end
section
namespace Go.Proofs.YticokfpaoiekgaaGreatDoor
open Go.Lift Go.Lex Go.Shp Go.Prs
section
variable {R : Ending → World → Prop} {w wi : World} {m1 m2 m3 m9 p : Nat} {k : Int} {ns ps : Sl} {names : List B} {Q : List Shape} {sl : Sl} {l : List Tok} {s s1 s' : PS} {t : Tok}
theorem PSt.ptr (h : PSt w p sl l t m1 m2 m3 m9 k ns ps names Q s' wi) {K : Option Addr → G} (hk : K (some ⟨p, 0, none⟩) R wi) : ldG .ptr ⟨m1, 0, none⟩ K R wi := by
 obtain ⟨T, b⟩ := h.I.b1
 exact b.ld (c := .ptr) (x := some ⟨p, 0, none⟩) (o := 0) rfl hk
theorem PSt.step (h : PSt w p sl l t m1 m2 m3 m9 k ns ps names Q s wi) (hlt : s.at' < l.length) {K : G} (hk : ∀ w', PSt w p sl l t m1 m2 m3 m9 k ns ps names Q (on s) w' → K R w') :
  ldG .ptr ⟨m1, 0, none⟩ (fun (p17 : Option Addr) => nnG p17 fun (a18 : Addr) => ldG (.int .i64) ((a18.add 0).add 1) fun (n19 : Int) => nnG p17 fun (a20 : Addr) => stG ((a20.add 0).add 1) (.int .i64 (IntKind.wrap .i64 (n19 + 1))) K) R wi := by
 have hl := h.C.len
 refine h.ptr (nn_ok (h.C.b.ld (c := .int .i64) (x := (s.at' : Int)) (o := 1) rfl (nn_ok (h.C.b.st (o := 1) rfl (by simp) fun w2 B2 F2 => hk w2 (h.fr F2 (h.C.put F2 ?_ (by show s.at' + 1 ≤ _; omega)))))))
 have ew : IntKind.wrap .i64 ((s.at' : Int) + 1) = ((s.at' + 1 : Nat) : Int) := by rw [wrap_ok (by omega) (by omega)]; omega
 rw [ew] at B2
 exact B2
theorem PSt.test (h : PSt w p sl l t m1 m2 m3 m9 k ns ps names Q s wi) (n : Nat) {K : Bool → G} (hk : ∀ w', PSt w p sl l t m1 m2 m3 m9 k ns ps names Q s w' → K (decide (t.kind = n ∧ s.err = 0)) R w') :
  joinG [.one .bool] (fun (kj : Bool → G) => ldG (.int .i64) ⟨m9, 0, none⟩ fun (n12 : Int) => iteG (n12 == (n : Int)) (ldG .ptr ⟨m1, 0, none⟩ fun (p13 : Option Addr) => nnG p13 fun (a14 : Addr) => callG Tryz.prog 108 #[.pointer (some (a14.add 0))] [.one .bool] fun (b15 : Bool) => kj !b15) (kj false)) K R wi := by
 refine join1_ok (c := .bool) (fun (b : Bool) w' => b = decide (t.kind = n ∧ s.err = 0) ∧ Fr noB wi w') (fun kj hkj => h.M9.ld (c := .int .i64) (x := (t.kind : Int)) (o := 0) rfl (ite_ok (fun hb => h.ptr (nn_ok (callB_ok (pbad_ok h.C) fun w2 F2 => hkj _ _ ⟨?_, F2⟩))) fun hb => hkj _ _ ⟨?_, Fr.refl _ _⟩)) fun b w' ⟨hb, F⟩ => by rw [hb]; exact hk w' (h.fr0 F)
 ·have hb : (t.kind : Int) = (n : Int) := by simpa using hb
  rw [Bool.eq_iff_iff, decide_eq_true_eq]
  simp only [Bool.not_eq_true', bne_eq_false_iff_eq]
  omega
 ·have hb : ¬ (t.kind : Int) = (n : Int) := by simpa using hb
  rw [decide_eq_false (by omega)]
theorem PSt.may (h : PSt w p sl l t m1 m2 m3 m9 k ns ps names Q s wi) (x : ByteArray) {K : Bool → G} (hy : isT l (bl x) s = true → ∀ w', PSt w p sl l t m1 m2 m3 m9 k ns ps names Q (on s) w' → K true R w') (hn : isT l (bl x) s = false → ∀ w', PSt w p sl l t m1 m2 m3 m9 k ns ps names Q s w' → K false R w') :
  ldG .ptr ⟨m1, 0, none⟩ (fun (p60 : Option Addr) => nnG p60 fun (a61 : Addr) => callG Tryz.prog 186 #[.pointer (some (a61.add 0)), .string x] [.one .bool] K) R wi := by
 refine h.ptr (nn_ok (callB_ok (pmay_ok h.C x) fun w2 ⟨C2, F2⟩ => ?_))
 cases ht : isT l (bl x) s with
 | true =>
  have e1 : Prs.may l (bl x) s = (true, on s) := by unfold Prs.may; rw [if_pos ht]
  rw [e1] at C2 ⊢
  exact hy ht w2 (h.fr F2 C2)
 | false =>
  have e1 : Prs.may l (bl x) s = (false, s) := by unfold Prs.may; rw [ht]; rfl
  rw [e1] at C2 ⊢
  exact hn ht w2 (h.fr F2 C2)
theorem PSt.must (h : PSt w p sl l t m1 m2 m3 m9 k ns ps names Q s wi) (x : ByteArray) {K : G} (hk : ∀ w', PSt w p sl l t m1 m2 m3 m9 k ns ps names Q (must l (bl x) s) w' → K R w') :
  ldG .ptr ⟨m1, 0, none⟩ (fun (p60 : Option Addr) => nnG p60 fun (a61 : Addr) => callG Tryz.prog 184 #[.pointer (some (a61.add 0)), .string x] [] K) R wi := by
 refine h.ptr (nn_ok (call_ok (pmust_ok h.C x) ?_))
 rintro e w2 ⟨rfl, C2, F2⟩
 exact ⟨(), rfl, hk w2 (h.fr F2 C2)⟩
theorem resC1 : (resOf Tryz.prog 180).isSome = true := by kernel_rfl
theorem resC2 : (resOf Tryz.prog 188).isSome = true := by kernel_rfl
theorem PSt.rows {f : Nat} (hR : ReadC p sl l f) (h : PSt w p sl l t m1 m2 m3 m9 k ⟨none, 0, 0⟩ ⟨none, 0, 0⟩ [] [] (on s) wi) (b x : ByteArray) (hf : l.length - s.at' < f + 1) (hlt : s.at' < l.length) {K : G}
  (hk : ∀ ns ps w', PSt w p sl l t m1 m2 m3 m9 k ns ps (rowF l (bl b) (bl x) f s).1.1 (rowF l (bl b) (bl x) f s).1.2 (rowF l (bl b) (bl x) f s).2 w' → K R w') :
  ldG .ptr ⟨m1, 0, none⟩ (fun (p60 : Option Addr) => nnG p60 fun (a61 : Addr) => callG Tryz.prog 187 #[.pointer (some (a61.add 0)), .string b, .string x, .func (.func 180) #[] #[.pointer (some ⟨m1, 0, none⟩), .pointer (some ⟨m3, 0, none⟩)]] [] K) R wi := by
 have hlen := h.C.len
 refine h.ptr (nn_ok (call_ok (plist_ok (J := fun n (a : List B × List Shape) w' => ∃ ns ps, Bld w' m9 m1 m3 p k ns ps a.1 a.2 ∧ a.1.length + n ≤ l.length + 1 ∧ a.2.length + n ≤ l.length + 1 ∧ Fr (fun b => b = p ∨ b = m3 ∨ m9 < b) wi w') (one := namedF l f) (a0 := ([], [])) resC1
  (fun n a w1 w2 ⟨ns, ps, I, h1, h2, F⟩ F2 => ⟨ns, ps, I.fr F2, h1, h2, F.then F2 fun x hx hh => .inl hh⟩) (fun a s => namedF_mono (fun s => shapeF_mono l f s) a s) ?_ b x h.C (by show 1 ≤ s.at' + 1; omega) ⟨_, _, h.I, by simp, by simp, Fr.refl _ _⟩) ?_))
 ·rintro n ⟨a1, a2⟩ s1 w1 ⟨ns, ps, I, h1, h2, F⟩ C1 he hle
  change s.at' + 1 ≤ s1.at' at hle
  change a1.length + (n + 1) ≤ _ at h1
  change a2.length + (n + 1) ≤ _ at h2
  refine (named1_ok hR I C1 (by show a1.length ≤ _; omega) (by show a2.length ≤ _; omega) (by omega) (by omega)).mono ?_
  rintro e w2 ⟨rfl, ns', ps', I2, C2, F2⟩
  refine ⟨rfl, ⟨ns', ps', I2, ?_, ?_, F.then F2 fun x hx hh => hh⟩, C2⟩
  ·show (a1 ++ [_]).length + n ≤ _
   rw [List.length_append, List.length_singleton]
   omega
  ·show (a2 ++ [_]).length + n ≤ _
   rw [List.length_append, List.length_singleton]
   omega
 ·rintro e w2 ⟨rfl, ⟨n, ns, ps, I2, h1, h2, F2⟩, C2⟩
  exact ⟨(), rfl, hk ns ps w2 (h.go F2 I2 C2 ⟨by show (rowF l (bl b) (bl x) f s).1.1.length ≤ _; change (rowF l (bl b) (bl x) f s).1.1.length + n ≤ _ at h1; omega, by show (rowF l (bl b) (bl x) f s).1.2.length ≤ _; change (rowF l (bl b) (bl x) f s).1.2.length + n ≤ _ at h2; omega⟩)⟩
theorem PSt.args {f : Nat} (hR : ReadC p sl l f) (h : PSt w p sl l t m1 m2 m3 m9 k ⟨none, 0, 0⟩ ⟨none, 0, 0⟩ [] [] (on s) wi) (hf : l.length - s.at' < f + 1) (hlt : s.at' < l.length) {K : G}
  (hk : ∀ ps w', PSt w p sl l t m1 m2 m3 m9 k ⟨none, 0, 0⟩ ps [] (argsF l f s).1 (argsF l f s).2 w' → (argsF l f s).1.length ≤ 5001 → K R w') :
  ldG .ptr ⟨m1, 0, none⟩ (fun (p60 : Option Addr) => nnG p60 fun (a61 : Addr) => callG Tryz.prog 187 #[.pointer (some (a61.add 0)), .string (ByteArray.mk #[44]), .string (ByteArray.mk #[41]), .func (.func 188) #[] #[.pointer (some ⟨m3, 0, none⟩), .pointer (some ⟨m1, 0, none⟩)]] [] K) R wi := by
 have hlen := h.C.len
 refine h.ptr (nn_ok (call_ok (plist_ok (J := fun n (a : List Shape) w' => ∃ ps, Bld w' m9 m1 m3 p k ⟨none, 0, 0⟩ ps [] a ∧ a.length + n ≤ l.length + 1 ∧ Fr (fun b => b = p ∨ b = m3 ∨ m9 < b) wi w') (one := partF l f) (a0 := []) resC2
  (fun n a w1 w2 ⟨ps, I, h1, F⟩ F2 => ⟨ps, I.fr F2, h1, F.then F2 fun x hx hh => .inl hh⟩) (fun a s => shapeF_mono l f s) ?_ (ByteArray.mk #[44]) (ByteArray.mk #[41]) h.C (by show 1 ≤ s.at' + 1; omega) ⟨_, h.I, by simp, Fr.refl _ _⟩) ?_))
 ·rintro n a s1 w1 ⟨ps, I, h1, F⟩ C1 he hle
  change s.at' + 1 ≤ s1.at' at hle
  refine (part1_ok hR I C1 (by omega) (by omega) (by omega)).mono ?_
  rintro e w2 ⟨rfl, ps', I2, C2, F2⟩
  refine ⟨rfl, ⟨ps', I2, ?_, F.then F2 fun x hx hh => hh⟩, C2⟩
  show (a ++ [_]).length + n ≤ _
  rw [List.length_append, List.length_singleton]
  omega
 ·rintro e w2 ⟨rfl, ⟨n, ps, I2, h1, F2⟩, C2⟩
  exact ⟨(), rfl, hk ps w2 (h.go F2 I2 C2 ⟨by simp, by show (argsF l f s).1.length ≤ _; change (argsF l f s).1.length + n ≤ _ at h1; omega⟩) (by change (argsF l f s).1.length + n ≤ _ at h1; omega)⟩
end
end Go.Proofs.YticokfpaoiekgaaGreatDoor
end
section
namespace Go.Prs
open Go.Lex Go.Shp
theorem argsF_on (l : List Tok) (f : Nat) (s : PS) : s.at' + 1 ≤ (argsF l f s).2.at' := listL_mono (one := partF l f) (fun _ s => shapeF_mono l f s) _ _ (on s)
end Go.Prs
namespace Go.Proofs.YticokfpaoiekgaaGreatDoor
open Go.Lift Go.Lex Go.Shp Go.Prs
set_option maxHeartbeats 4000000 in
theorem shape_ok {p : Nat} {sl : Sl} {l : List Tok} : ∀ f, ReadC p sl l f
 | 0, s, w, C, h1, h2 => by
  by_cases he : s.err = 0
  ·exact absurd (h2 he) (Nat.not_lt_zero _)
  ·exact absurd (h1 he) (by decide)
 | f + 1, s, w, C, _, hf => by
  have ih := shape_ok (p := p) (sl := sl) (l := l) f
  have hpw : p < w.heap.size := C.b.lt
  generalize hS : shapeF l (f + 1) s = S
  rw [shapeF_succ] at hS
  apply c149
  unfold t149 wrZ ivZ tvZ svZ shZ ldIZ ldSZ ldLZ ldPZ ld5mZ st5Z nwZ nw5Z nz5Z ca0Z caBZ ca5Z caZ jn0Z jnBZ ixZ
  refine new_ok fun w1 m1 hm1 hs1 B1 F1 => new_ok fun w2 m2 hm2 hs2 B2 F2 => new_ok fun w3 m3 hm3 hs3 B3 F3 => ?_
  have G13 := F2.tr F3
  have G3 := F1.tr G13
  have C3 := C.fr0 G3
  refine (B1.fr G13 (fun h => h)).ld (c := .ptr) (x := some ⟨p, 0, none⟩) (o := 0) rfl (nn_ok (callTok_ok (ppeek_ok C3) fun w4 F4 => ?_))
  have htx := peek_txt (l := l) (p := s.at') C.txt
  generalize htk : peek l s.at' = t at hS htx
  refine new_ok fun w5 m9 hm9 hs5 B9 F5 => fill3_ok B9 rfl rfl rfl rfl fun w6 M9 F6 => ?_
  have hz4 := F4.size
  have G46 : Fr noB w4 w6 := F5.fill (by omega) F6
  have G36 := F4.tr G46
  have G6 := G3.tr G36
  have hz6 := F6.size
  have st0 : PSt w p sl l t m1 m2 m3 m9 0 ⟨none, 0, 0⟩ ⟨none, 0, 0⟩ [] [] s w6 :=
   ⟨⟨⟨_, B1.fr (G13.tr G36) (fun h => h)⟩, B3.fr G36 (fun h => h), ⟨by omega, by omega, by omega, by omega, by omega, M9.lt⟩, ⟨[], World.ownsRow_nil _ _ _ _, rfl, fun j v q hv => by simp at hv⟩, World.ownsRow_nil _ _ _ _, (fun a ha => nomatch ha), (fun a ha => nomatch ha), (fun a c ha => nomatch ha), fun x hx => by simp at hx⟩,
    C.fr0 G6, G6.mono fun _ _ h => h.elim, ⟨_, B2.fr (F3.tr G36) (fun h => h), rfl⟩, M9, ⟨hpw, by omega, by omega, by omega, by omega⟩, ⟨by simp, by simp⟩⟩
  refine join0_ok (fun w' => ∃ k ns ps names Q s', S = (.mk k [] [] names Q, s') ∧ PSt w p sl l t m1 m2 m3 m9 k ns ps names Q s' w') (fun kj hkj => ?_) (fun w' ⟨k, ns, ps, names, Q, s', he, h⟩ => by rw [he]; exact h.fin)
  refine st0.test 2 fun w7 st7 => ?_
  by_cases h2 : t.kind = 2 ∧ s.err = 0
  ·rw [if_pos h2] at hS
   have hlt : s.at' < l.length := peek_kind (by rw [htk]; omega)
   refine ite_yes (decide_eq_true h2) (st7.step hlt fun w8 st8 => st8.M9.ld (c := .str) (x := bs t.text) (o := 1) rfl ?_)
   have hu := pupper_ok (w := w8) (ByteArray.mk #[]) (bs t.text) (by decide) (by rw [← bl_length, bl_bs]; exact htx)
   rw [bl_bs, show bl (ByteArray.mk #[]) = ([] : B) from rfl] at hu
   subst hS
   exact callUp_ok hu fun kq oq nq w9 F9 hv => ret_ok (st8.fr0 F9) fun w'' _ => hv w''
  rw [if_neg h2] at hS
  refine ite_no (decide_eq_false h2) (st7.test 1 fun w8 st8 => ?_)
  by_cases h1 : t.kind = 1 ∧ s.err = 0
  ·rw [if_pos h1] at hS
   have hlt : s.at' < l.length := peek_kind (by rw [htk]; omega)
   refine ite_yes (decide_eq_true h1) (st8.step hlt fun w9 st9 => st9.must (ByteArray.mk #[47]) fun w10 st10 => drew_ok fun w11 F11 z11 => ?_)
   have st11 := st10.fr0 F11
   refine st11.M9.ld (c := .str) (x := bs t.text) (o := 1) rfl (st11.ptr (nn_ok ?_))
   refine callTok_ok (Y := fun w' => Cur w' p sl l (take l 2 (must l [47] (on s))).2 ∧ Fr (oneB p) w11 w') (ptake_ok st11.C 2 (by decide)) fun w12 ⟨C12, F12⟩ => ?_
   have st12 := st11.fr F12 C12
   have htx2 := take_txt (l := l) (k := 2) (s := must l [47] (on s)) C.txt
   refine keep_cons st12.I.h1 (keep_cons (held_one (st12.M9.cell (o := 1) rfl)) (keep_nil ?_))
   have hu := pupper_ok (w := w12) (bs t.text) (bs (take l 2 (must l [47] (on s))).1.text) (by rw [← bl_length, bl_bs]; exact htx) (by rw [← bl_length, bl_bs]; exact htx2)
   rw [bl_bs, bl_bs] at hu
   subst hS
   refine callUp_ok hu fun kq oq nq w13 F13 hv => keep_cons (st12.fr0 F13).I.h1 (keep_nil (ret_ok (st12.fr0 F13) fun w'' _ => hv w''))
  rw [if_neg h1] at hS
  refine ite_no (decide_eq_false h1) (st8.may (ByteArray.mk #[91]) (fun hb w9 st9 => join_in (vs := []) (ite_yes rfl ?_)) fun hb w9 st9 => join_in (vs := []) (ite_no rfl ?_))
  ·-- a row
   have hb : isT l [91] s = true := hb
   have hlt := isT_lt hb
   have he : s.err = 0 := by
    unfold isT at hb
    rw [Bool.and_eq_true, beq_iff_eq] at hb
    exact hb.2
   rw [if_pos hb] at hS
   refine st9.ptr (callPar_ok (ih (on s) w9 st9.C (fun h => absurd he h) (fun _ => by have := hf he; show l.length - (s.at' + 1) < f; omega)) fun k1 o1 n1 ns1 ps1 w10 C10 F10 hv => new_ok fun w11 m70 hm70 hs11 B11 F11 => ?_)
   have st11 := (st9.fr F10 C10).fr0 F11
   change Blk w11 m70 _ (shCells k1 o1 n1 ns1 ps1) at B11
   obtain ⟨l1, l2, l3, l4, l5, l6⟩ := st9.I.le
   have hz9 := F10.size
   refine st11.kind fun w12 st12 F12 => ?_
   have B12 := B11.fr F12 (fun h => by change m70 = m3 at h; omega)
   refine st12.I.b3.st (o := 4) rfl (by simp [shCells]) fun w13 B13 F13 => ?_
   change Blk w13 m3 _ (shCells 5 eB eB ⟨none, 0, 0⟩ ⟨some ⟨m70, 0, none⟩, 1, 1⟩) at B13
   have C70 := B12.fr F13 (fun h => by change m70 = m3 at h; omega)
   have hz13 := F13.size
   have hz12 := F12.size
   have F10' : Fr (oneB m3) w10 w13 := ((F11.mono fun _ _ h => h.elim).then F12 fun _ _ h => h).then F13 fun _ _ h => h
   obtain ⟨T, b1⟩ := st12.I.b1
   have st13 : PSt w p sl l t m1 m2 m3 m9 5 ⟨none, 0, 0⟩ ⟨some ⟨m70, 0, none⟩, 1, 1⟩ [] [(shapeF l f (on s)).1] (shapeF l f (on s)).2 w13 := by
    refine st12.go (F13.mono fun x _ h => .inr (.inl h)) ⟨⟨T, b1.fr F13 (fun h => by change m1 = m3 at h; omega)⟩, B13, ⟨l1, l2, l3, l4, l5, by omega⟩, ⟨[(k1, o1, n1, ns1, ps1)], ⟨rfl, .inr ⟨m70, 1, _, rfl, Nat.zero_le _, C70, Nat.le_refl _, by unfold maxLen; omega, rfl, rfl⟩⟩, rfl, fun j v q hv1 hq w'' F'' => ?_⟩, World.ownsRow_nil _ _ _ _, (fun a ha => nomatch ha), fun a ha => ?_, (fun a c ha => nomatch ha), fun x hx => by simp at hx⟩ (st12.C.fr F13 fun b hb h => by change b = m3 at h; omega) ⟨by simp, by simp⟩
    ·have hj : j = 0 := by
      have := (List.getElem?_eq_some_iff.1 hv1).1
      simpa using this
     subst hj
     simp only [List.getElem?_cons_zero, Option.some.injEq] at hv1 hq
     subst hv1 hq
     refine hv w'' ((F10'.trans F'').mono fun x hx h => ?_)
     rcases h with h | ⟨h | ⟨a, h1, _⟩ | ⟨a, h1, h2⟩, _⟩
     ·change x = m3 at h
      omega
     ·omega
     ·cases h1
     ·cases h1
      change m70 = x at h2
      omega
    ·cases ha
     exact ⟨by show m9 < m70; omega, by show m70 < _; omega⟩
   subst hS
   exact st13.must (ByteArray.mk #[93]) fun w14 st14 => hkj _ ⟨5, _, _, _, _, _, rfl, st14⟩
  have hb : isT l [91] s = false := hb
  rw [hb, if_neg Bool.false_ne_true] at hS
  have hremain : ∀ x : B, isT l x s = true → s.err = 0 ∧ s.at' < l.length ∧ l.length - s.at' < f + 1 := fun x hx => by
   have he : s.err = 0 := by
    unfold isT at hx
    rw [Bool.and_eq_true, beq_iff_eq] at hx
    exact hx.2
   exact ⟨he, isT_lt hx, hf he⟩
  refine st9.may (ByteArray.mk #[123]) (fun hb2 w10 st10 => join_in (vs := []) (ite_yes rfl ?_)) fun hb2 w10 st10 => join_in (vs := []) (ite_no rfl ?_)
  ·have hb2 : isT l [123] s = true := hb2
   obtain ⟨he, hlt, hff⟩ := hremain _ hb2
   rw [if_pos hb2] at hS
   subst hS
   exact st10.kind fun w11 st11 _ => st11.rows ih (ByteArray.mk #[44]) (ByteArray.mk #[125]) hff hlt fun ns ps w12 st12 => hkj _ ⟨6, ns, ps, _, _, _, rfl, st12⟩
  have hb2 : isT l [123] s = false := hb2
  rw [hb2, if_neg Bool.false_ne_true] at hS
  refine st10.may (ByteArray.mk #[60]) (fun hb3 w11 st11 => join_in (vs := []) (ite_yes rfl ?_)) fun hb3 w11 st11 => join_in (vs := []) (ite_no rfl ?_)
  ·have hb3 : isT l [60] s = true := hb3
   obtain ⟨he, hlt, hff⟩ := hremain _ hb3
   rw [if_pos hb3] at hS
   subst hS
   exact st11.kind fun w12 st12 _ => st12.rows ih (ByteArray.mk #[124]) (ByteArray.mk #[62]) hff hlt fun ns ps w13 st13 => hkj _ ⟨7, ns, ps, _, _, _, rfl, st13⟩
  have hb3 : isT l [60] s = false := hb3
  rw [hb3, if_neg Bool.false_ne_true] at hS
  refine st11.may (ByteArray.mk #[40]) (fun hb4 w12 st12 => join_in (vs := []) (ite_yes rfl ?_)) fun hb4 w12 st12 => join_in (vs := []) (ite_no rfl ?_)
  ·have hb4 : isT l [40] s = true := hb4
   obtain ⟨he, hlt, hff⟩ := hremain _ hb4
   rw [if_pos hb4] at hS
   have hon := argsF_on l f s
   refine st12.kind fun w13 st13 _ => st13.args ih hff hlt fun ps w14 st14 h51 => st14.must (ByteArray.mk #[45, 62]) fun w15 st15 => drew_ok fun w16 F16 z16 => ?_
   have st16 := st15.fr0 F16
   have hmm := must_mono l [45, 62] (argsF l f s).2
   refine push_ok (q := (shapeF l f (must l [45, 62] (argsF l f s).2)).1) (s1 := (shapeF l f (must l [45, 62] (argsF l f s).2)).2) st16.I (by omega) (fun w17 F17 => ih _ w17 (st16.C.fr0 F17) (fun _ => by omega) (fun _ => by show l.length - (must l [45, 62] (argsF l f s).2).at' < f; omega)) fun ps' w17 I17 C17 F17 => hkj _ ⟨8, _, ps', _, _, _, by rw [← hS], st16.go (F17.mono fun x hx h => ?_) I17 C17 ⟨by simp, by rw [List.length_append, List.length_singleton]; omega⟩⟩
   rcases h with h | h | ⟨a, h1, h2⟩
   ·exact .inl h
   ·exact .inr (.inl h)
   ·have := (st16.I.belP a h1).1
    exact .inr (.inr (by omega))
  have hb4 : isT l [40] s = false := hb4
  rw [hb4, if_neg Bool.false_ne_true] at hS
  refine drew_ok fun w13 F13 z13 => ?_
  have st13 := st12.fr0 F13
  refine st13.ptr (nn_ok (st13.M9.ld (c := .int .i64) (x := (t.at' : Int)) (o := 2) rfl (call_ok (pfail_ok st13.C 90 t.at') ?_)))
  rintro e w14 ⟨rfl, C14, F14⟩
  have st14 := st13.fr F14 C14
  exact ⟨(), rfl, keep_cons st14.I.h1 (keep_nil (hkj _ ⟨0, _, _, _, _, _, by rw [← hS], st14⟩))⟩
end Go.Proofs.YticokfpaoiekgaaGreatDoor
end
section
namespace Go.Proofs.YticokfpaoiekgaaGreatDoor
open Go.Lift Go.Lex Go.Shp Go.RowKit Go.Shelf
attribute [local go_sem] Oper.semAt_some
theorem add_block (a : Addr) (j : Nat) : (a.add j).block = a.block := by unfold Addr.add; split <;> rfl
set_option maxRecDepth 100000 in
set_option maxHeartbeats 2000000 in
theorem values1_in (F : Fence) (n : Nat) (h7 : F.fn 155) (hro : F.round = none) (hn : 1 ≤ n) (l Bs n₀ : Nat) (a : Addr) (len cap : Nat) (L : List B) (hll : len = L.length) (hreach : len * 8 ≤ 140737488351232) (hb : a.block < n₀) (J Jx : List B → World → Prop)
  (hY : ∀ pre x W, J pre W → pre.length < len → YieldAt F (n - 1) Tryz.prog l #[.string (bs x)] W fun e W' =>
   (e = .returned (.bool true) ∧ J (pre ++ [x]) W' ∧ Below n₀ W W') ∨ (e = .returned (.bool false) ∧ Jx (pre ++ [x]) W'))
  (W : World) (hBs : W.cell? ⟨Bs, 0, none⟩ = some (.slice (some a) len cap)) (hc : ∀ (j : Nat) x, L[j]? = some x → W.cell? (a.add j) = some (.string (bs x))) (h0 : J [] W) :
  CallsIn F n Tryz.prog 155 #[.func (.yield l) #[] #[], .pointer (some ⟨Bs, 0, none⟩)] W fun e W' => (∃ v, e = .returned v) ∧
   ((∃ ys, ys = L ∧ J ys W') ∨ (∃ pre, pre <+: L ∧ Jx pre W')) := by
 refine callsIn_of_wp Tryz.func155 rfl h7 ?_ hro
 simp only [Tryz.ntmps155, List.size_toArray, List.length_cons, List.length_nil, Nat.reduceAdd, Nat.reduceSub, Array.replicate_succ, Array.replicate_zero, List.push_toArray, List.append_toArray, List.nil_append, List.cons_append]
 gi_wp2
 gi_loopw [7] (fun i wr => ∃ k : Nat, k ≤ len ∧ i = .int .i64 k ∧ J (L.take k) wr ∧ Below n₀ W wr)
  (fun i _ => len - (intOf i).toNat)
 case atStart => exact ⟨0, Nat.zero_le _, rfl, h0, Below.refl _ _⟩
 case round =>
  obtain ⟨k, hk, rfl, hJs, hnx⟩ := hrel
  by_cases hlt : k < len
  ·obtain ⟨x, hx⟩ : ∃ x, L[k]? = some x := ⟨_, List.getElem?_eq_getElem (by omega)⟩
   obtain ⟨fn, tmps, assign, body, hy, hR⟩ := hY _ x wr hJs (by rw [List.length_take]; omega)
   have hcx : wr.cell? (a.add k) = some (.string (bs x)) := (hnx.cell (p := a.add k) (by rw [add_block]; exact hb)).trans (hc k x hx)
   have htk : L.take k ++ [x] = L.take (k + 1) := by rw [List.take_add_one, hx]; rfl
   gi_wp2
   refine hR.mono ?_
   rintro e W3 (⟨rfl, hJ3, hk3⟩ | ⟨rfl, hJx3⟩)
   ·gi_wp2
    go_roundw
    case rel => exact ⟨k + 1, by omega, by simp, by rw [← htk]; exact hJ3, hnx.trans hk3⟩
    case measure => simp [intOf]; omega
   ·gi_wp2
    refine bodyPost_ret (results_none rfl _ _ _) rfl ?_
    exact ⟨⟨_, rfl⟩, .inr ⟨_, by rw [htk]; exact List.take_prefix _ _, hJx3⟩⟩
  ·obtain rfl : k = len := by omega
   gi_wp2
   go_end0
   exact ⟨⟨_, rfl⟩, .inl ⟨_, List.take_of_length_le (by omega), hJs⟩⟩
set_option maxRecDepth 100000 in
set_option maxHeartbeats 1000000 in
theorem values1_none (F : Fence) (n : Nat) (h7 : F.fn 155) (hro : F.round = none) (l Bs : Nat) (a : Option Addr) (cap : Nat) (J : List B → World → Prop) (W : World) (hBs : W.cell? ⟨Bs, 0, none⟩ = some (.slice a 0 cap)) (h0 : J [] W) :
  CallsIn F n Tryz.prog 155 #[.func (.yield l) #[] #[], .pointer (some ⟨Bs, 0, none⟩)] W fun e W' => (∃ v, e = .returned v) ∧ J [] W' := by
 refine callsIn_of_wp Tryz.func155 rfl h7 ?_ hro
 simp only [Tryz.ntmps155, List.size_toArray, List.length_cons, List.length_nil, Nat.reduceAdd, Nat.reduceSub, Array.replicate_succ, Array.replicate_zero, List.push_toArray, List.append_toArray, List.nil_append, List.cons_append]
 gi_wp2
 gi_loopw [7] (fun i wr => i = .int .i64 0 ∧ J [] wr) (fun _ _ => 0)
 case atStart => exact ⟨rfl, h0⟩
 case round =>
  obtain ⟨rfl, hJs⟩ := hrel
  gi_wp2
  go_end0
  exact ⟨⟨_, rfl⟩, hJs⟩
theorem values_stops (F : Fence) (n : Nat) (h7 : F.fn 155) (hro : F.round = none) (hn : 1 ≤ n) (Bs n₀ : Nat) (l : Sl) (L : List B) (hreach : L.length * 8 ≤ 140737488351232) (w : World) (hBs : Bs < w.heap.size) (hn₀ : n₀ ≤ w.heap.size)
  (hc : w.cell? ⟨Bs, 0, none⟩ = some (.slice l.a l.n l.c)) (hR : RdS w l (L.map bs)) (hlow : ∀ (j : Nat) a, j < L.length → l.a = some a → a.block < n₀) :
  SeqStopsK F n Tryz.prog 155 #[.pointer (some ⟨Bs, 0, none⟩)] (fun x : B => #[Value.string (bs x)]) (Below n₀) (fun ys => ys = L) (fun pre => pre <+: L) L.length w := fun r J Jx W hW _ _ hY h0 => by
 have hc' := (hW.cell (p := ⟨Bs, 0, none⟩) hBs).trans hc
 have hnn := hR.1
 rw [List.length_map] at hnn
 cases L with
 | nil =>
  rw [hnn] at hc'
  exact (values1_none F n h7 hro r Bs l.a l.c J W hc' h0).mono fun e W' ⟨he, hj⟩ => ⟨he, .inl ⟨_, rfl, hj⟩⟩
 | cons x0 L0 =>
  obtain ⟨a, ha, _⟩ := hR.2 0 (bs x0) rfl
  rw [ha, hnn] at hc'
  refine (values1_in F n h7 hro hn r Bs n₀ a (x0 :: L0).length l.c (x0 :: L0) rfl hreach (hlow 0 a (by simp) ha) J Jx hY W hc' (fun j x hx => ?_) h0).mono ?_
  ·obtain ⟨a', ha', hcell⟩ := hR.2 j (bs x) (by rw [List.getElem?_map, hx]; rfl)
   rw [ha] at ha'
   cases ha'
   rw [Nat.mul_one] at hcell
   exact (hW.cell (p := a.add j) (by rw [add_block]; exact Nat.lt_of_lt_of_le (hlow 0 a (by simp) ha) hn₀)).trans hcell
  ·rintro e W' ⟨he, ⟨ys, rfl, hj⟩ | ⟨pre, hp, hj⟩⟩
   ·exact ⟨he, .inl ⟨_, rfl, hj⟩⟩
   ·exact ⟨he, .inr ⟨_, hp, hj⟩⟩
theorem info9T : (Tryz.prog.info? 9).map (fun i => (i.zero, i.size, i.bytes)) = some (some (.string .empty), 1, 16) := by kernel_rfl
set_option maxRecDepth 100000 in
set_option maxHeartbeats 2000000 in
theorem appendSeq_in (F : Fence) (n : Nat) (h3 : F.fn 190) (h5 : F.fn 155) (hro : F.round = none) (hn : 3 ≤ n) (Bs : Nat) (l : Sl) (L : List B) (hbytes : L.length * 16 ≤ 140737488351232) (w : World) (hBs : Bs < w.heap.size)
  (hcs : w.cell? ⟨Bs, 0, none⟩ = some (.slice l.a l.n l.c)) (hR : RdS w l (L.map bs)) :
  CallsIn F n Tryz.prog 190 #[.slice none 0 0, .func (.func 155) #[] #[.pointer (some ⟨Bs, 0, none⟩)]] w fun e W' => ∃ v, e = .returned v ∧ W'.ownsRow w.heap.size 9 1 v L.length (L.map fun x => Value.string (bs x)) ∧ Below w.heap.size w W' := by
 have h1 : 1 ≤ n := by omega
 obtain ⟨i0, hi, hz0, hz1, hz2⟩ := info_parts info9T
 have hlow : ∀ (j : Nat) a, j < L.length → l.a = some a → a.block < w.heap.size := fun j a hj ha => by
  obtain ⟨a', ha', hcell⟩ := hR.2 j (bs L[j]) (by rw [List.getElem?_map, List.getElem?_eq_getElem hj]; rfl)
  rw [ha] at ha'
  cases ha'
  have := World.block_lt_of_cell? w _ hcell
  rwa [add_block] at this
 refine callsIn_of_wp_marks Tryz.func190 rfl h3 ?_ hro
 simp only [Tryz.ntmps190, List.size_toArray, List.length_cons, List.length_nil, Nat.reduceAdd, Nat.reduceSub, Array.replicate_succ, Array.replicate_zero, List.push_toArray, List.append_toArray, List.nil_append, List.cons_append]
 gi_wp2
 have bO := Boxed.new w 22 (.slice none 0 0)
 have hB0 : Below w.heap.size w (w.alloc (.cells #[.slice none 0 0] 22)) := (Below.refl _ w).alloc (Nat.le_refl _) _
 refine wpIn_rangeFunc_ownG hro h1 (gf := 155) (lb := #[.pointer (some ⟨Bs, 0, none⟩)]) rfl h5 (enters_of Tryz.func155 (by kernel_rfl) rfl)
  (values_stops F (n - 1) h5 hro (by omega) Bs w.heap.size l L (by omega) _ (by simp; omega) (by simp) ((hB0.cell (p := ⟨Bs, 0, none⟩) hBs).trans hcs) (hR.fr (fr_alloc w _)) hlow) belowK_t (belowK_b (by simp)) (Below.refl _ _) (fun _ => rfl)
  (fun pre W => (∃ v, Boxed W w.heap.size 22 v ∧ W.ownsRow w.heap.size 9 1 v pre.length (pre.map fun x => Value.string (bs x)) ∧ True) ∧ Below w.heap.size w W)
  (fun _ _ _ => False)
  (OwnFrom.and (Own.from (holdsRow_own w.heap.size w.heap.size 22 9 1 (fun pre : List B => pre.length) (fun pre => pre.map fun x => Value.string (bs x)) (fun _ _ => True)) _) (ownFrom_below (Nat.le_refl _) (by simp)))
  (fun _ _ _ _ _ hs _ _ => hs)
  ⟨⟨_, bO, World.ownsRow_nil _ _ _ _, trivial⟩, hB0⟩
  (fun x => { tmps := #[.slice none 0 0, .func (.func 155) #[] #[.pointer (some ⟨Bs, 0, none⟩)], .pointer (some ⟨w.heap.size, 0, none⟩), undef, .slice none 0 0, .string (bs x), .func (.func 155) #[] #[.pointer (some ⟨Bs, 0, none⟩)], .string (bs x), undef, undef, undef, undef, undef], defers := [] }) ?assign ?body ?done ?stop
 case assign =>
  intro l x W K hK
  gi_wp2
  exact hK
 case body =>
  rintro l pre x W ⟨⟨v, hv, hrow, _⟩, hB⟩ hlt
  have hc := hv.cell
  gi_wp2_with (gi_at_builtin; refine wpListIn_append_own _ rfl _ _ 22 rfl w.heap.size 9 i0 (.string .empty) 1 16 uStrs' hi hz0 hz1 hz2 rfl (by decide) _ _ _ rfl (hrow.alloc _) ⟨W.heap.size, 0, none⟩ 1 1 [.string (bs x)] rfl rfl (cell_one_new _ _ _) (by simp [Value.oneCell']) (by unfold maxLen; omega) (by omega) (by have := hB.size; simp; omega) ?_; intro v' w1 hown' hgrow _; obtain ⟨g', cap', rfl⟩ := ownsRow_succ hown'; obtain ⟨hv1, hv2, hr2, hk2, hb2⟩ := hv.appended (by decide) hrow hB.size (Nat.le_refl _) hown' hgrow; have hc1 := hv1.cell; have hf1 := hv1.frozen)
  exact ⟨hk2.from _, hb2, ⟨_, hv2, by simpa using hr2, trivial⟩, hB.trans hb2⟩
 case done =>
  rintro D ys W hD rfl ⟨⟨v, hv, hrow, _⟩, hB⟩ hK
  have hc := hv.cell
  gi_wp2
  refine ⟨by simp, .inl ⟨_, _, rfl, run_takeDeferred hK, ?_⟩⟩
  exact ⟨_, results_tmp rfl _ _ _, v, rfl, ownsRow_putObj hrow _ hK rfl, hB.trans (belowK_b (w := w) (Nat.le_refl _) W D _ _ (by simp at hD; omega) hK rfl rfl)⟩
 case stop =>
  rintro D c pre W _ _ h _
  exact h.elim
end Go.Proofs.YticokfpaoiekgaaGreatDoor
end
