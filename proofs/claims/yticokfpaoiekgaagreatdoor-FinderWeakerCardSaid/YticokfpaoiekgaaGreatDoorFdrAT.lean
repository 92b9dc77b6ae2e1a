/- The law behind: one part of its proof (joined by program out of my own texts). No condition. -/
import Derived.Test.YticokfpaoiekgaaGreatDoorFdrAS
section
namespace Go.Prs
open Go.Lex
theorem peek_in {l : List Tok} {p : Nat} {t : Tok} (h : l[p]? = some t) : peek l p = t := by unfold peek; rw [h]
theorem peek_kind {l : List Tok} {p : Nat} (h : (peek l p).kind ≠ 0) : p < l.length := by
 rcases Nat.lt_or_ge p l.length with h1 | h1
 ·exact h1
 ·unfold peek at h
  rw [List.getElem?_eq_none h1] at h
  cases hl : l.getLast? with
  | none => rw [hl] at h; exact absurd rfl h
  | some t => rw [hl] at h; exact absurd rfl h
theorem isT_lt {l : List Tok} {x : B} {s : PS} (h : isT l x s = true) : s.at' < l.length := by
 apply peek_kind
 unfold isT at h
 rw [Bool.and_eq_true, Bool.and_eq_true, Bool.or_eq_true, beq_iff_eq, beq_iff_eq] at h
 omega
end Go.Prs
namespace Go.Proofs.YticokfpaoiekgaaGreatDoor
open Go.Lift Go.Lex Go.Shp Go.Prs
theorem addr_block (a : Addr) (k : Nat) : (a.add k).block = a.block := by unfold Addr.add; split <;> rfl
structure Cur (w : World) (p : Nat) (sl : Sl) (l : List Tok) (s : PS) : Prop where
 b : Blk w p 130 [.slice sl.a sl.n sl.c, .int .i64 (s.at' : Int), .int .i64 (s.err : Int), .int .i64 (s.ea : Int)]
 n : sl.n = l.length
 len : l.length ≤ 5000
 txt : ∀ t ∈ l, t.text.length < 4611686018427387904
 le : s.at' ≤ l.length
 toks : ∀ (k : Nat) t, l[k]? = some t → ∃ a, sl.a = some a ∧ a.block < p ∧ Held w (a.add (k * 3), tokCells t)
section
variable {w : World} {p : Nat} {sl : Sl} {l : List Tok} {s : PS}
theorem Cur.fr (h : Cur w p sl l s) {S : Nat → Prop} {w' : World} (F : Fr S w w') (hS : ∀ b, b ≤ p → ¬ S b) : Cur w' p sl l s :=
 ⟨h.b.fr F (hS p (Nat.le_refl _)), h.n, h.len, h.txt, h.le, fun k t hk => by
  obtain ⟨a, h1, h2, h3⟩ := h.toks k t hk
  exact ⟨a, h1, h2, F.held h3 (hS _ (Nat.le_of_lt (by
   have e : (a.add (k * 3)).block = a.block := addr_block _ _
   rw [e]
   exact h2)))⟩⟩
theorem Cur.fr0 (h : Cur w p sl l s) {w' : World} (F : Fr noB w w') : Cur w' p sl l s := h.fr F fun _ _ h => h
theorem Cur.put (h : Cur w p sl l s) {w' : World} {s' : PS} (F : Fr (oneB p) w w') (B : Blk w' p 130 [.slice sl.a sl.n sl.c, .int .i64 (s'.at' : Int), .int .i64 (s'.err : Int), .int .i64 (s'.ea : Int)]) (hle : s'.at' ≤ l.length) : Cur w' p sl l s' :=
 ⟨B, h.n, h.len, h.txt, hle, fun k t hk => by
  obtain ⟨a, h1, h2, h3⟩ := h.toks k t hk
  refine ⟨a, h1, h2, F.held h3 ?_⟩
  show ¬ (a.add (k * 3)).block = p
  rw [addr_block]
  omega⟩
def tokV (t : Tok) : Value := .agg #[.int .i64 (t.kind : Int), .string (bs t.text), .int .i64 (t.at' : Int)]
variable {R : Ending → World → Prop}
theorem tokA_ld {a : Addr} {t : Tok} {K : Int → ByteArray → Int → G} (h : Held w (a, tokCells t)) (hk : K (t.kind : Int) (bs t.text) (t.at' : Int) R w) : ldG (.int .i64) (a.add 0) (fun (k : Int) => ldG .str (a.add 1) fun (x : ByteArray) => ldG (.int .i64) (a.add 2) fun (i : Int) => K k x i) R w :=
 ld_ok (c := .int .i64) (h 0 _ rfl) (ld_ok (c := .str) (h 1 _ rfl) (ld_ok (c := .int .i64) (h 2 _ rfl) hk))
theorem fill3_ok {m : Nat} {T : TypeId} {l : List Value} {v0 v1 v2 : Value} {k : G} (B : Blk w m T l) (hl : l.length = 3) (h0 : v0.oneCell' = true) (h1 : v1.oneCell' = true) (h2 : v2.oneCell' = true)
  (hk : ∀ w', Blk w' m T [v0, v1, v2] → Fr (oneB m) w w' → k R w') : stG ⟨m, 0, none⟩ v0 (stG ⟨m, 1, none⟩ v1 (stG ⟨m, 2, none⟩ v2 k)) R w := by
 match l, hl with
 | [a, b, c], _ =>
  refine B.st h0 (by simp) fun w1 B1 F1 => B1.st h1 (by simp) fun w2 B2 F2 => B2.st h2 (by simp) fun w3 B3 F3 => ?_
  exact hk _ B3 (st_fr (st_fr F1 F2) F3)
theorem Blk.ldT {m : Nat} {T : TypeId} {t : Tok} (B : Blk w m T (tokCells t)) {K : Int → ByteArray → Int → G} (h : K (t.kind : Int) (bs t.text) (t.at' : Int) R w) : ldG (.int .i64) ⟨m, 0, none⟩ (fun (k : Int) => ldG .str ⟨m, 1, none⟩ fun (x : ByteArray) => ldG (.int .i64) ⟨m, 2, none⟩ fun (i : Int) => K k x i) R w :=
 B.ld (c := .int .i64) (x := (t.kind : Int)) (o := 0) rfl (B.ld (c := .str) (x := bs t.text) (o := 1) rfl (B.ld (c := .int .i64) (x := (t.at' : Int)) (o := 2) rfl h))
theorem ppeek_ok (h : Cur w p sl l s) : Calls Tryz.prog 148 #[.pointer (some ⟨p, 0, none⟩)] w fun e w' => e = .returned (tokV (peek l s.at')) ∧ Fr noB w w' := by
 have hn := h.n
 apply c148
 unfold t148 wrZ ivZ tvZ ldIZ ldSZ ldLZ nwZ ixZ
 refine new_ok fun w1 m1 hm1 hs1 M1 F1 => drew_ok fun w2 F2 z2 => ?_
 have G2 := F1.tr F2
 have h2 := h.fr0 G2
 have M2 := M1.fr F2 (fun h => h)
 refine nn_ok (h2.b.ld (c := .int .i64) (x := (s.at' : Int)) (o := 1) rfl (nn_ok (h2.b.ldS (o := 0) rfl (ite_ok (fun hlt => ?_) fun hge => ?_))))
 ·have hlt : (s.at' : Int) < ((sl.n : Nat) : Int) := of_decide_eq_true hlt
  refine drew_ok fun w3 F3 z3 => ?_
  have h3 := h2.fr0 F3
  have M3 := M2.fr F3 (fun h => h)
  obtain ⟨t, ht⟩ : ∃ t, l[s.at']? = some t := ⟨_, List.getElem?_eq_getElem (by omega)⟩
  obtain ⟨a, ha, _, hc⟩ := h3.toks _ t ht
  rw [peek_in ht]
  refine nn_ok (h3.b.ldS (o := 0) rfl (nn_ok (h3.b.ld (c := .int .i64) (x := (s.at' : Int)) (o := 1) rfl ?_)))
  show idxG sl.a sl.n _ _ _ _ _
  rw [ha]
  refine idx_ok (by omega) (by omega) ?_
  rw [Int.toNat_natCast]
  refine tokA_ld hc (fill3_ok M3 rfl rfl rfl rfl fun w4 M4 F4 => Blk.ldT M4 ⟨rfl, ((G2.tr F3)).fill (by omega) F4⟩)
 ·have hge : ¬ (s.at' : Int) < ((sl.n : Nat) : Int) := of_decide_eq_false hge
  have hnone : l[s.at']? = none := List.getElem?_eq_none (by omega)
  refine nn_ok (h2.b.ldS (o := 0) rfl (ite_ok (fun h0 => ?_) fun h0 => drew_ok fun w3 F3 z3 => ?_))
  ·have h0 : sl.n = 0 := nat0 h0
   have hl : l = [] := List.eq_nil_of_length_eq_zero (by omega)
   have hp : peek l s.at' = ⟨0, [], 0⟩ := by subst hl; rfl
   rw [hp]
   exact fill3_ok M2 rfl rfl rfl rfl fun w4 M4 F4 => Blk.ldT (t := ⟨0, [], 0⟩) M4 ⟨rfl, G2.fill (by omega) F4⟩
  ·have h0 : ¬ sl.n = 0 := by
    intro e
    rw [e] at h0
    cases h0
   have h3 := h2.fr0 F3
   have M3 := M2.fr F3 (fun h => h)
   obtain ⟨t, ht⟩ : ∃ t, l[l.length - 1]? = some t := ⟨_, List.getElem?_eq_getElem (by omega)⟩
   obtain ⟨a, ha, _, hc⟩ := h3.toks _ t ht
   have hp : peek l s.at' = ⟨0, [], t.at'⟩ := by
    unfold peek
    rw [hnone, List.getLast?_eq_getElem?, ht]
   rw [hp]
   refine nn_ok (h3.b.ldS (o := 0) rfl (nn_ok (h3.b.ldS (o := 0) rfl ?_)))
   have ew : IntKind.wrap .i64 (((sl.n : Nat) : Int) - 1) = ((l.length - 1 : Nat) : Int) := by rw [wrap_ok (by have := h.len; omega) (by have := h.len; omega)]; omega
   show idxG sl.a sl.n (IntKind.wrap .i64 (((sl.n : Nat) : Int) - 1)) _ _ _ _
   rw [ew, ha]
   refine idx_ok (by omega) (by omega) ?_
   rw [Int.toNat_natCast]
   refine ld_ok (c := .int .i64) (hc 2 _ rfl) (fill3_ok M3 rfl rfl rfl rfl fun w4 M4 F4 => Blk.ldT (t := ⟨0, [], t.at'⟩) M4 ⟨rfl, ((G2.tr F3)).fill (by omega) F4⟩)
theorem callTok_ok {f : FuncId} {args : Array Value} {t : Tok} {Y : World → Prop} (hc : Calls Tryz.prog f args w fun e w' => e = .returned (tokV t) ∧ Y w') {K : Int → ByteArray → Int → G} (h : ∀ w', Y w' → K (t.kind : Int) (bs t.text) (t.at' : Int) R w') : callG Tryz.prog f args [.agg [.int .i64, .str, .int .i64]] K R w :=
 call_ok hc fun _ w' ⟨he, F⟩ => ⟨(((t.kind : Int), bs t.text, (t.at' : Int), ()), ()), he, h w' F⟩
theorem pbad_ok (h : Cur w p sl l s) : AnsB 108 #[.pointer (some ⟨p, 0, none⟩)] w (s.err != 0) := by
 apply c108
 unfold t108 ldIZ
 refine nn_ok (h.b.ld (c := .int .i64) (x := (s.err : Int)) (o := 2) rfl ⟨?_, Fr.refl _ _⟩)
 have : ((s.err : Int) != 0) = (s.err != 0) := by
  rw [Bool.eq_iff_iff, bne_iff_ne, bne_iff_ne]
  omega
 rw [this]
def StepP (w : World) (p : Nat) (sl : Sl) (l : List Tok) (s' : PS) (v : Value) (e : Ending) (w' : World) : Prop := e = .returned v ∧ Cur w' p sl l s' ∧ Fr (oneB p) w w'
theorem pfail_ok (h : Cur w p sl l s) (e a : Nat) : Calls Tryz.prog 147 #[.pointer (some ⟨p, 0, none⟩), .int .i64 (e : Int), .int .i64 (a : Int)] w (StepP w p sl l (fail e a s) (.tuple #[])) := by
 apply c147
 unfold t147 ivZ caBZ jn0Z
 refine callB_ok (pbad_ok h) fun w1 F1 => ?_
 have h1 := h.fr0 F1
 have M0 : Fr (oneB p) w w1 := F1.mono fun _ _ h => h.elim
 refine join0_ok (fun w' => Cur w' p sl l (fail e a s) ∧ Fr (oneB p) w w') (fun kj hkj => ?_) fun w' ⟨h1, F⟩ => ⟨rfl, h1, F⟩
 refine ite_ok (fun hb => nn_ok (h1.b.st (o := 2) rfl (by simp) fun w2 B2 F2 => B2.st (o := 3) rfl (by simp) fun w3 B3 F3 => hkj _ ?_)) fun hb => hkj _ ?_
 ·have hb : s.err = 0 := by simpa using hb
  rw [show fail e a s = { s with err := e, ea := a } by unfold fail; rw [if_pos hb]]
  exact ⟨h1.put (st_fr F2 F3) B3 h1.le, st_fr M0 (st_fr F2 F3)⟩
 ·have hb : ¬ s.err = 0 := by simpa using hb
  rw [show fail e a s = s by unfold fail; rw [if_neg hb]]
  exact ⟨h1, M0⟩
theorem pis_ok (h : Cur w p sl l s) (x : ByteArray) : AnsB 205 #[.pointer (some ⟨p, 0, none⟩), .string x] w (isT l (bl x) s) := by
 apply c205
 unfold t205 ivZ tvZ ldIZ ldSZ nwZ caBZ caZ jnBZ
 refine callTok_ok (ppeek_ok h) fun w1 F1 => ?_
 generalize ht : peek l s.at' = t
 have hT : isT l (bl x) s = ((t.kind == 6 || t.kind == 5) && t.text == bl x && s.err == 0) := by unfold isT; rw [ht]
 rw [hT]
 refine new_ok fun w2 m5 hm5 hs2 M2 F2 => fill3_ok M2 rfl rfl rfl rfl fun w3 M3 F3 => ?_
 have G3 : Fr noB w w3 := (F1.tr F2).fill (by have := F1.size; omega) F3
 have h3 := h.fr0 G3
 change Blk w3 m5 _ (tokCells t) at M3
 have c6 : ∀ n : Nat, ((t.kind : Int) == (n : Int)) = (t.kind == n) := fun n => by
  rw [Bool.eq_iff_iff, beq_iff_eq, beq_iff_eq]
  omega
 have cx : ((bs t.text).toList == x.toList) = (t.text == bl x) := by rw [eq_bl, bl_bs]
 refine join1_ok (c := .bool) (fun (b : Bool) w' => b = ((t.kind == 6 || t.kind == 5) && t.text == bl x && s.err == 0) ∧ Fr noB w w') (fun kj hkj => ?_) fun b w' ⟨hb, F⟩ => ⟨by rw [hb], F⟩
 have last : ∀ {b : Bool}, (t.kind == 6 || t.kind == 5) = true → t.text == bl x → callG Tryz.prog 108 #[.pointer (some ⟨p, 0, none⟩)] [.one .bool] (fun (b : Bool) => kj !b) (fun e w' => e = .returned (.bool ((t.kind == 6 || t.kind == 5) && t.text == bl x && s.err == 0)) ∧ Fr noB w w') w3 := by
  intro _ h1 h2
  refine callB_ok (pbad_ok h3) fun w4 F4 => hkj _ _ ⟨?_, G3.tr F4⟩
  rw [h1, h2]
  cases hs : (s.err == 0) <;> simp [bne, hs]
 refine M3.ld (c := .int .i64) (x := (t.kind : Int)) (o := 0) rfl ?_
 show iteG ((t.kind : Int) == ((6 : Nat) : Int)) _ _ _ _
 rw [c6]
 refine ite_ok (fun h6 => M3.ld (c := .str) (x := bs t.text) (o := 1) rfl ?_) fun h6 => M3.ld (c := .int .i64) (x := (t.kind : Int)) (o := 0) rfl ?_
 ·rw [cx]
  exact ite_ok (fun hx => last (b := true) (by rw [h6]; rfl) hx) fun hx => hkj _ _ ⟨by rw [hx, Bool.and_false, Bool.false_and], G3⟩
 show iteG ((t.kind : Int) == ((5 : Nat) : Int)) _ _ _ _
 rw [c6]
 refine ite_ok (fun h5 => M3.ld (c := .str) (x := bs t.text) (o := 1) rfl ?_) fun h5 => hkj _ _ ⟨by rw [h6, h5]; rfl, G3⟩
 rw [cx]
 exact ite_ok (fun hx => last (b := true) (by rw [h5, Bool.or_true]) hx) fun hx => hkj _ _ ⟨by rw [hx, Bool.and_false, Bool.false_and], G3⟩
theorem pmay_ok (h : Cur w p sl l s) (x : ByteArray) : Calls Tryz.prog 186 #[.pointer (some ⟨p, 0, none⟩), .string x] w (StepP w p sl l (may l (bl x) s).2 (.bool (may l (bl x) s).1)) := by
 apply c186
 unfold t186 wrZ ivZ tvZ ldIZ caBZ
 refine callB_ok (pis_ok h x) fun w1 F1 => ?_
 have h1 := h.fr0 F1
 have M0 : Fr (oneB p) w w1 := F1.mono fun _ _ h => h.elim
 unfold may
 by_cases ht : isT l (bl x) s = true
 ·rw [if_pos ht]
  have hlt := isT_lt ht
  have hle := h.len
  refine ite_no (by rw [ht]; rfl) (nn_ok (h1.b.ld (c := .int .i64) (x := (s.at' : Int)) (o := 1) rfl (nn_ok (h1.b.st (o := 1) rfl (by simp) fun w2 B2 F2 => ⟨rfl, h1.put F2 ?_ (by show s.at' + 1 ≤ _; omega), st_fr M0 F2⟩))))
  have ew : IntKind.wrap .i64 ((s.at' : Int) + 1) = ((s.at' + 1 : Nat) : Int) := by rw [wrap_ok (by omega) (by omega)]; omega
  rw [ew] at B2
  exact B2
 ·rw [if_neg ht]
  exact ite_yes (by simpa using ht) ⟨rfl, h1, M0⟩
theorem pmust_ok (h : Cur w p sl l s) (x : ByteArray) : Calls Tryz.prog 184 #[.pointer (some ⟨p, 0, none⟩), .string x] w (StepP w p sl l (must l (bl x) s) (.tuple #[])) := by
 apply c184
 unfold t184 ivZ tvZ ca0Z caBZ caZ jn0Z
 refine callB_ok (pmay_ok h x) fun w1 ⟨h1, F1⟩ => ?_
 refine join0_ok (fun w' => Cur w' p sl l (must l (bl x) s) ∧ Fr (oneB p) w w') (fun kj hkj => ?_) fun w' ⟨h1, F⟩ => ⟨rfl, h1, F⟩
 by_cases ht : isT l (bl x) s = true
 ·have e1 : may l (bl x) s = (true, on s) := by unfold may; rw [if_pos ht]
  have e2 : must l (bl x) s = on s := by unfold must; rw [if_pos ht]
  rw [e1] at h1 ⊢
  exact ite_no rfl (hkj _ ⟨by rw [e2]; exact h1, F1⟩)
 ·have e1 : may l (bl x) s = (false, s) := by unfold may; rw [if_neg ht]
  have e2 : must l (bl x) s = fail 90 (peek l s.at').at' s := by unfold must; rw [if_neg ht]
  rw [e1] at h1 ⊢
  refine ite_yes rfl (callTok_ok (ppeek_ok h1) fun w2 F2 => call_ok (pfail_ok (h1.fr0 F2) 90 (peek l s.at').at') ?_)
  rintro e w3 ⟨rfl, h3, F3⟩
  exact ⟨(), rfl, hkj _ ⟨by rw [e2]; exact h3, st_fr F1 (st_fr (F2.mono fun _ _ h => h.elim) F3)⟩⟩
theorem ptake_ok (h : Cur w p sl l s) (k : Nat) (hk0 : k ≠ 0) : Calls Tryz.prog 185 #[.pointer (some ⟨p, 0, none⟩), .int .i64 (k : Int)] w (StepP w p sl l (take l k s).2 (tokV (take l k s).1)) := by
 apply c185
 unfold t185 wrZ ivZ tvZ ldIZ ldSZ nwZ ca0Z caBZ caZ jnBZ
 refine new_ok fun w1 m2 hm2 hs1 A1 F1 => callTok_ok (ppeek_ok (h.fr0 F1)) fun w2 F2 => ?_
 generalize ht : peek l s.at' = t
 have hT : take l k s = if t.kind ≠ k ∨ s.err ≠ 0 then (⟨0, [], 0⟩, fail 90 t.at' s) else (t, on s) := by unfold take; rw [ht]
 rw [hT]
 refine new_ok fun w3 m6 hm6 hs3 M3 F3 => fill3_ok M3 rfl rfl rfl rfl fun w4 M4 F4 => ?_
 have F34 : Fr noB w2 w4 := F3.fill (by omega) F4
 have G4 : Fr noB w w4 := (F1.tr F2).tr F34
 have h4 := h.fr0 G4
 have A4 := A1.fr (F2.tr F34) (fun h => h)
 change Blk w4 m6 _ (tokCells t) at M4
 have hpw : p < w.heap.size := h.b.lt
 have hz2 := F2.size
 refine join1_ok (c := .bool) (fun (b : Bool) w' => b = decide (t.kind ≠ k ∨ s.err ≠ 0) ∧ Fr noB w4 w') (fun kj hkj => M4.ld (c := .int .i64) (x := (t.kind : Int)) (o := 0) rfl (ite_ok (fun hk => hkj _ _ ⟨?_, Fr.refl _ _⟩) fun hk => callB_ok (pbad_ok h4) fun w5 F5 => hkj _ _ ⟨?_, F5⟩)) ?_
 ·have hk : ¬ (t.kind : Int) = (k : Int) := by simpa using hk
  rw [decide_eq_true (.inl (by omega))]
 ·have hk : (t.kind : Int) = (k : Int) := by simpa using hk
  rw [Bool.eq_iff_iff, bne_iff_ne, decide_eq_true_eq]
  omega
 rintro b w5 ⟨rfl, F5⟩
 have h5 := h4.fr0 F5
 have M5 := M4.fr F5 (fun h => h)
 have A5 := A4.fr F5 (fun h => h)
 have G5 := G4.tr F5
 have N5 : Fr (oneB p) w w5 := G5.mono fun _ _ h => h.elim
 by_cases hbad : t.kind ≠ k ∨ s.err ≠ 0
 ·rw [if_pos hbad]
  refine ite_yes (decide_eq_true hbad) (M5.ld (c := .int .i64) (x := (t.at' : Int)) (o := 2) rfl (call_ok (pfail_ok h5 90 t.at') ?_))
  rintro e w6 ⟨rfl, h6, F6⟩
  refine ⟨(), rfl, ?_⟩
  have A6 := A5.fr F6 (fun h => by change m2 = p at h; omega)
  refine fill3_ok A6 rfl rfl rfl rfl fun w7 A7 F7 => Blk.ldT (t := ⟨0, [], 0⟩) A7 ⟨rfl, h6.fr F7 (fun b hb h => by change b = m2 at h; omega), ?_⟩
  exact (st_fr N5 F6).then F7 fun x hx h => by change x = m2 at h; omega
 ·rw [if_neg hbad]
  have hkk : t.kind = k := by
   rcases Nat.decEq t.kind k with h | h
   ·exact absurd (.inl h) hbad
   ·exact h
  have hlt : s.at' < l.length := peek_kind (by rw [ht]; omega)
  have hle := h.len
  have ew : IntKind.wrap .i64 ((s.at' : Int) + 1) = ((s.at' + 1 : Nat) : Int) := by rw [wrap_ok (by omega) (by omega)]; omega
  refine ite_no (decide_eq_false hbad) (nn_ok (h5.b.ld (c := .int .i64) (x := (s.at' : Int)) (o := 1) rfl (nn_ok (h5.b.st (o := 1) rfl (by simp) fun w6 B6 F6 => ?_))))
  rw [ew] at B6
  have h6 : Cur w6 p sl l (on s) := h5.put F6 B6 (by show s.at' + 1 ≤ _; omega)
  have M6 := M5.fr F6 (fun h => by change m6 = p at h; omega)
  have A6 := A5.fr F6 (fun h => by change m2 = p at h; omega)
  refine Blk.ldT M6 (fill3_ok A6 rfl rfl rfl rfl fun w7 A7 F7 => Blk.ldT A7 ⟨rfl, h6.fr F7 (fun b hb h => by change b = m2 at h; omega), ?_⟩)
  exact (st_fr N5 F6).then F7 fun x hx h => by change x = m2 at h; omega
end
end Go.Proofs.YticokfpaoiekgaaGreatDoor
end
section
set_option maxRecDepth 100000
namespace Go.Proofs.YticokfpaoiekgaaGreatDoor
open Go.Lift
variable {R : Ending → World → Prop} {w : World}
def t10 : Int → ByteArray → ByteArray → Sl → Sl → Int → ByteArray → ByteArray → Sl → Sl → G := fun n0 s1 s2 l3 l4 n5 s6 s7 l8 l9 => nw5Z n0 s1 s2 l3 l4 25 fun m10 => nw5Z n5 s6 s7 l8 l9 25 fun m11 => ld5mZ m10 fun n12 s13 s14 l15 l16 =>
 ld5mZ m11 fun n17 s18 s19 l20 l21 => caBZ 23 #[shZ n12 s13 s14 l15 l16, shZ n17 s18 s19 l20 l21] fun b22 => iteG b22 (retG (ivZ 3)) (ld5mZ m10 fun n23 s24 s25 l26 l27 => ld5mZ m11 fun n28 s29 s30 l31 l32 => caBZ 24 #[shZ n23 s24 s25 l26
 l27, shZ n28 s29 s30 l31 l32] fun b33 => iteG b33 (retG (ivZ 2)) (ld5mZ m10 fun n34 s35 s36 l37 l38 => ld5mZ m11 fun n39 s40 s41 l42 l43 => caBZ 25 #[shZ n34 s35 s36 l37 l38, shZ n39 s40 s41 l42 l43] fun b44 => iteG b44 (retG (ivZ 1))
 (retG (ivZ 0))))
theorem e10 : denF Tryz.prog (GA Tryz.prog) Tryz.f10 [(.agg [(.int .i64), .str, .str, .slice, .slice]), (.agg [(.int .i64), .str, .str, .slice, .slice])] .leaf = t10 := by kernel_rfl
theorem c10 (x0 : Int)(x1 : ByteArray)(x2 : ByteArray)(x3 : Sl)(x4 : Sl)(x5 : Int)(x6 : ByteArray)(x7 : ByteArray)(x8 : Sl)(x9 : Sl) (h : t10 x0 x1 x2 x3 x4 x5 x6 x7 x8 x9 R w) : Calls Tryz.prog 10 #[.agg #[.int .i64 x0, .string x1, .string x2, .slice x3.a x3.n x3.c, .slice x4.a x4.n x4.c], .agg #[.int .i64 x5, .string x6, .string x7, .slice x8.a x8.n x8.c, .slice x9.a x9.n x9.c]] w R := lift mixed Tryz.func10 e10 rfl ((x0, x1, x2, x3, x4, ()), (x5, x6, x7, x8, x9, ()), ()) R w h
def t13 : Sl → Sl → G := fun l0 l1 => iteG ((l0.n : Int) != (l1.n : Int)) (retG (.bool false)) (jn0Z (fun k2 => lpIZ (fun k3 n4 => iteG (decide (n4 < (l0.n : Int))) (jn0Z (fun k5 => drewG (ixZ l0 n4 3 fun a6 => ld3xZ a6 fun s7 s8 n9 => ixZ
 l1 n4 3 fun a10 => ld3xZ a10 fun s11 s12 n13 => opG Tryz.prog (eqSem BinOp.neq 46 (Operand.tmp 20) (Operand.tmp 24) (.agg #[(.string s7), (.string s8), (.int .i64 n9)]) (.agg #[(.string s11), (.string s12), (.int .i64 n13)])) (.one .bool)
 fun (b14 : Bool) => iteG b14 (retG (.bool false)) k5)) (k3 (wrZ (n4 + 1)))) k2) 0) (retG (.bool true)))
theorem e13 : denF Tryz.prog (GA Tryz.prog) Tryz.f13 [(.one .slice), (.one .slice)] (.seq .leaf (.seq .leaf (.seq (.seq .leaf (.block (sl Tryz.prog []) (.loop (sl Tryz.prog [(5, 3)]) (.seq .leaf (.seq (.block (sl Tryz.prog []) .leaf) .leaf))))) .leaf))) = t13 := by kernel_rfl
theorem c13 (x0 : Sl)(x1 : Sl) (h : t13 x0 x1 R w) : Calls Tryz.prog 13 #[.slice x0.a x0.n x0.c, .slice x1.a x1.n x1.c] w R := lift mixed Tryz.func13 e13 rfl ((x0, ()), (x1, ()), ()) R w h
def t15 : Int → ByteArray → ByteArray → Sl → Sl → Int → Sl → G := fun n0 s1 s2 l3 l4 n5 l6 => nw5Z n0 s1 s2 l3 l4 25 fun m7 => jnLZ (fun k8 => lpLIZ (fun k9 l10 n11 => iteG (decide (n11 < (l6.n : Int))) (jnLZ (fun k12 => jnLZ (fun k13 =>
 lpLIZ (fun k14 l15 n16 => ixZ l6 n11 2 fun a17 => ldLZ (a17.add 1) fun l18 => iteG (decide (n16 < (l18.n : Int))) (jnLZ (fun k19 => ixZ l6 n11 2 fun a20 => ldLZ (a20.add 1) fun l21 => ixZ l21 n16 7 fun a22 => ld7xZ a22 fun n23 s24 n25 s26
 s27 l28 l29 => nz7Z 44 fun m30 => st7Z m30 n23 s24 n25 s26 s27 l28 l29 (ldIZ ⟨m30, 0, none⟩ fun n31 => jnLZ (fun k32 => iteG (n31 == 3) (drewG (ixZ l6 n11 2 fun a33 => ldSZ (a33.add 0) fun s34 => ldSZ ⟨m30, 1, none⟩ fun s35 => lf5mZ m30
 fun n36 s37 s38 l39 l40 => ld5mZ m7 fun n41 s42 s43 l44 l45 => caIZ 10 #[shZ n36 s37 s38 l39 l40, shZ n41 s42 s43 l44 l45] fun n46 => keepG [(⟨m30, 1, none⟩, [tvZ s35]), ((a33.add 0), [tvZ s34])] (caLZ 30 #[svZ l15, .agg #[tvZ s34, tvZ
 s35, ivZ n46]] fun l47 => k32 l47))) (k32 l15)) fun l48 => k19 l48)) fun l49 => k14 l49 (wrZ (n16 + 1))) (k13 l15)) l10 0) fun l50 => k12 l50) fun l51 => k9 l51 (wrZ (n11 + 1))) (k8 l10)) (Sl.mk none 0 0) 0) fun l52 => caLZ 31 #[svZ l52,
 ivZ n5] fun l53 => retG (svZ l53)
theorem e15 : denF Tryz.prog (GA Tryz.prog) Tryz.f15 [(.agg [(.int .i64), .str, .str, .slice, .slice]), (.one (.int .i64)), (.one .slice)] (.seq .leaf (.seq .leaf (.seq (.seq .leaf (.block (sl Tryz.prog [(7, 32)]) (.loop (sl Tryz.prog [(7, 32), (8, 3)]) (.seq .leaf (.seq (.block (sl Tryz.prog [(7, 32)]) (.seq .leaf (.block (sl Tryz.prog [(7, 32)]) (.loop (sl Tryz.prog [(7, 32), (9, 3)]) (.seq .leaf (.seq (.block (sl Tryz.prog [(7, 32)]) (.seq .leaf (.seq .leaf (.condj (sl Tryz.prog [(7, 32)]) .leaf .leaf)))) .leaf)))))) .leaf))))) .leaf))) = t15 := by kernel_rfl
theorem c15 (x0 : Int)(x1 : ByteArray)(x2 : ByteArray)(x3 : Sl)(x4 : Sl)(x5 : Int)(x6 : Sl) (h : t15 x0 x1 x2 x3 x4 x5 x6 R w) : Calls Tryz.prog 15 #[.agg #[.int .i64 x0, .string x1, .string x2, .slice x3.a x3.n x3.c, .slice x4.a x4.n x4.c], .int .i64 x5, .slice x6.a x6.n x6.c] w R := lift mixed Tryz.func15 e15 rfl ((x0, x1, x2, x3, x4, ()), (x5, ()), (x6, ()), ()) R w h
def t17 : ByteArray → Int → Sl → G := fun s0 n1 l2 => jnLZ (fun k3 => lpLIZ (fun k4 l5 n6 => iteG (decide (n6 < (l2.n : Int))) (jnLZ (fun k7 => jnLZ (fun k8 => lpLIZ (fun k9 l10 n11 => ixZ l2 n6 2 fun a12 => ldLZ (a12.add 1) fun l13 => iteG
 (decide (n11 < (l13.n : Int))) (jnLZ (fun k14 => ixZ l2 n6 2 fun a15 => ldLZ (a15.add 1) fun l16 => ixZ l16 n11 7 fun a17 => ldSZ (a17.add 1) fun s18 => drewG (ixZ l2 n6 2 fun a19 => ldSZ (a19.add 0) fun s20 => caIZ 35 #[tvZ s18, tvZ s0]
 fun n21 => keepG [((a19.add 0), [tvZ s20])] (caLZ 30 #[svZ l10, .agg #[tvZ s20, tvZ s18, ivZ n21]] fun l22 => k14 l22))) fun l23 => k9 l23 (wrZ (n11 + 1))) (k8 l10)) l5 0) fun l24 => k7 l24) fun l25 => k4 l25 (wrZ (n6 + 1))) (k3 l5))
 (Sl.mk none 0 0) 0) fun l26 => caLZ 31 #[svZ l26, ivZ n1] fun l27 => retG (svZ l27)
theorem e17 : denF Tryz.prog (GA Tryz.prog) Tryz.f17 [(.one .str), (.one (.int .i64)), (.one .slice)] (.seq .leaf (.seq .leaf (.seq (.seq .leaf (.block (sl Tryz.prog [(7, 32)]) (.loop (sl Tryz.prog [(7, 32), (8, 3)]) (.seq .leaf (.seq (.block (sl Tryz.prog [(7, 32)]) (.seq .leaf (.block (sl Tryz.prog [(7, 32)]) (.loop (sl Tryz.prog [(7, 32), (9, 3)]) (.seq .leaf (.seq (.block (sl Tryz.prog [(7, 32)]) .leaf) .leaf)))))) .leaf))))) .leaf))) = t17 := by kernel_rfl
theorem c17 (x0 : ByteArray)(x1 : Int)(x2 : Sl) (h : t17 x0 x1 x2 R w) : Calls Tryz.prog 17 #[.string x0, .int .i64 x1, .slice x2.a x2.n x2.c] w R := lift mixed Tryz.func17 e17 rfl ((x0, ()), (x1, ()), (x2, ()), ()) R w h
def t30 : Sl → ByteArray → ByteArray → Int → G := fun l0 s1 s2 n3 => nwZ #[tvZ s1, tvZ s2, ivZ n3] 46 fun m4 => ldIZ ⟨m4, 2, none⟩ fun n5 => iteG (decide (n5 < 1)) (retG (svZ l0)) (jnIZ (fun k6 => lpIZ (fun k7 n8 => jnBZ (fun k9 => drewG
 (iteG (decide (n8 > 0)) (ixZ l0 (wrZ (n8 - 1)) 3 fun a10 => ld3xZ a10 fun s11 s12 n13 => ldSZ ⟨m4, 0, none⟩ fun s14 => ldSZ ⟨m4, 1, none⟩ fun s15 => ldIZ ⟨m4, 2, none⟩ fun n16 => caBZ 57 #[.agg #[tvZ s11, tvZ s12, ivZ n13], .agg #[tvZ s14,
 tvZ s15, ivZ n16]] fun b17 => k9 b17) (k9 false))) fun b18 => iteG b18 (jnIZ (fun k19 => k19 (wrZ (n8 - 1))) fun n20 => k7 n20) (k6 n8)) (l0.n : Int)) fun n21 => drewG (assumeG (decide ((↑l0.c : Int) ≤ (↑l0.c : Int))) (resliceG l0.a l0.c
 (0 : Int) n21 ((↑l0.c : Int)) 3 fun (p22 : Option Addr) (m23 : Nat) (m24 : Nat) => ldSZ ⟨m4, 0, none⟩ fun s25 => ldSZ ⟨m4, 1, none⟩ fun s26 => ldIZ ⟨m4, 2, none⟩ fun n27 => assumeG (decide ((↑l0.c : Int) ≤ (↑l0.c : Int))) (resliceG l0.a
 l0.c n21 (l0.n : Int) ((↑l0.c : Int)) 3 fun (p28 : Option Addr) (m29 : Nat) (m30 : Nat) => bothG (nwZ #[] 46 fun m31 => keepG [(⟨m4, 0, none⟩, [tvZ s25, tvZ s26, ivZ n27])] (bothG (opG Tryz.prog (Builtin.append_ #[32, 32] 32 #[(.slice
 (some ⟨m31, 0, none⟩) 0 0), (.slice p22 m23 m24)]) (.one .slice) fun (l32 : Sl) => keepG [(⟨m4, 0, none⟩, [tvZ s25, tvZ s26, ivZ n27])] (nwZ #[tvZ s25, tvZ s26, ivZ n27] 46 fun m33 => opG Tryz.prog (Builtin.append_ #[32, 32] 32 #[(.slice
 l32.a l32.n l32.c), (.slice (some ⟨m33, 0, none⟩) 1 1)]) (.one .slice) fun (l34 : Sl) => opG Tryz.prog (Builtin.append_ #[32, 32] 32 #[(.slice l34.a l34.n l34.c), (.slice p28 m29 m30)]) (.one .slice) fun (l35 : Sl) => keepG [(⟨m4, 0,
 none⟩, [tvZ s25, tvZ s26, ivZ n27])] (retG (svZ l35)))) (nwZ #[tvZ s25, tvZ s26, ivZ n27] 46 fun m36 => opG Tryz.prog (Builtin.append_ #[32, 32] 32 #[(.slice (some ⟨m31, 0, none⟩) 0 0), (.slice p22 m23 m24)]) (.one .slice) fun (l37 : Sl)
 => keepG [(⟨m4, 0, none⟩, [tvZ s25, tvZ s26, ivZ n27])] (opG Tryz.prog (Builtin.append_ #[32, 32] 32 #[(.slice l37.a l37.n l37.c), (.slice (some ⟨m36, 0, none⟩) 1 1)]) (.one .slice) fun (l38 : Sl) => opG Tryz.prog (Builtin.append_ #[32,
 32] 32 #[(.slice l38.a l38.n l38.c), (.slice p28 m29 m30)]) (.one .slice) fun (l39 : Sl) => keepG [(⟨m4, 0, none⟩, [tvZ s25, tvZ s26, ivZ n27])] (retG (svZ l39)))))) (nwZ #[tvZ s25, tvZ s26, ivZ n27] 46 fun m40 => nwZ #[] 46 fun m41 =>
 keepG [(⟨m4, 0, none⟩, [tvZ s25, tvZ s26, ivZ n27])] (opG Tryz.prog (Builtin.append_ #[32, 32] 32 #[(.slice (some ⟨m41, 0, none⟩) 0 0), (.slice p22 m23 m24)]) (.one .slice) fun (l42 : Sl) => keepG [(⟨m4, 0, none⟩, [tvZ s25, tvZ s26, ivZ
 n27])] (opG Tryz.prog (Builtin.append_ #[32, 32] 32 #[(.slice l42.a l42.n l42.c), (.slice (some ⟨m40, 0, none⟩) 1 1)]) (.one .slice) fun (l43 : Sl) => opG Tryz.prog (Builtin.append_ #[32, 32] 32 #[(.slice l43.a l43.n l43.c), (.slice p28
 m29 m30)]) (.one .slice) fun (l44 : Sl) => keepG [(⟨m4, 0, none⟩, [tvZ s25, tvZ s26, ivZ n27])] (retG (svZ l44)))))))))
theorem e30 : denF Tryz.prog (GA Tryz.prog) Tryz.f30 [(.one .slice), (.agg [.str, .str, (.int .i64)])] (.seq .leaf (.seq .leaf (.seq .leaf (.seq (.block (sl Tryz.prog [(5, 3)]) (.loop (sl Tryz.prog [(5, 3)]) (.seq (.seq (.r (sl Tryz.prog [(22, 4)])) .leaf) (.block (sl Tryz.prog [(5, 3)]) .leaf)))) .leaf)))) = t30 := by kernel_rfl
theorem c30 (x0 : Sl)(x1 : ByteArray)(x2 : ByteArray)(x3 : Int) (h : t30 x0 x1 x2 x3 R w) : Calls Tryz.prog 30 #[.slice x0.a x0.n x0.c, .agg #[.string x1, .string x2, .int .i64 x3]] w R := lift mixed Tryz.func30 e30 rfl ((x0, ()), (x1, x2, x3, ()), ()) R w h
def t31 : Sl → Int → G := fun l0 n1 => iteG (decide (n1 < 1)) (retG (.slice none 0 0)) (iteG (decide (n1 < (l0.n : Int))) (assumeG (decide ((↑l0.c : Int) ≤ (↑l0.c : Int))) (resliceG l0.a l0.c (0 : Int) n1 ((↑l0.c : Int)) 3 fun (p2 : Option
 Addr) (m3 : Nat) (m4 : Nat) => retG (.slice p2 m3 m4))) (retG (svZ l0)))
theorem e31 : denF Tryz.prog (GA Tryz.prog) Tryz.f31 [(.one .slice), (.one (.int .i64))] .leaf = t31 := by kernel_rfl
theorem c31 (x0 : Sl)(x1 : Int) (h : t31 x0 x1 R w) : Calls Tryz.prog 31 #[.slice x0.a x0.n x0.c, .int .i64 x1] w R := lift mixed Tryz.func31 e31 rfl ((x0, ()), (x1, ()), ()) R w h
def t35 : ByteArray → ByteArray → G := fun s0 s1 => iteG (s0.toList == s1.toList) (retG (ivZ 3)) (jn0Z (fun k2 => lpIZ (fun k3 n4 => iteG (decide (wrZ (n4 + (↑(ByteArray.size s1) : Int)) ≤ (↑(ByteArray.size s0) : Int))) (jn0Z (fun k5 =>
 subG s0 n4 (wrZ (n4 + (↑(ByteArray.size s1) : Int))) fun (s6 : ByteArray) => iteG (s6.toList == s1.toList) (iteG (n4 == 0) (retG (ivZ 2)) (retG (ivZ 1))) k5) (k3 (wrZ (n4 + 1)))) k2) 0) (retG (ivZ 0)))
theorem e35 : denF Tryz.prog (GA Tryz.prog) Tryz.f35 [(.one .str), (.one .str)] (.seq .leaf (.seq .leaf (.seq (.seq .leaf (.block (sl Tryz.prog []) (.loop (sl Tryz.prog [(5, 3)]) (.seq .leaf (.seq (.block (sl Tryz.prog []) .leaf) .leaf))))) .leaf))) = t35 := by kernel_rfl
theorem c35 (x0 : ByteArray)(x1 : ByteArray) (h : t35 x0 x1 R w) : Calls Tryz.prog 35 #[.string x0, .string x1] w R := lift mixed Tryz.func35 e35 rfl ((x0, ()), (x1, ()), ()) R w h
def t57 : ByteArray → ByteArray → Int → ByteArray → ByteArray → Int → G := fun s0 s1 n2 s3 s4 n5 => nwZ #[tvZ s0, tvZ s1, ivZ n2] 46 fun m6 => nwZ #[tvZ s3, tvZ s4, ivZ n5] 46 fun m7 => ldIZ ⟨m6, 2, none⟩ fun n8 => ldIZ ⟨m7, 2, none⟩ fun n9
 => iteG (n8 != n9) (ldIZ ⟨m6, 2, none⟩ fun n10 => ldIZ ⟨m7, 2, none⟩ fun n11 => retG (.bool (decide (n10 < n11)))) (ldSZ ⟨m6, 0, none⟩ fun s12 => ldSZ ⟨m7, 0, none⟩ fun s13 => iteG (!s12.toList == s13.toList) (ldSZ ⟨m6, 0, none⟩ fun s14 =>
 ldSZ ⟨m7, 0, none⟩ fun s15 => retG (.bool (!(Op.bytesLess (s14.toList) (s15.toList) || s14.toList == s15.toList)))) (ldSZ ⟨m6, 1, none⟩ fun s16 => ldSZ ⟨m7, 1, none⟩ fun s17 => retG (.bool (!(Op.bytesLess (s16.toList) (s17.toList) ||
 s16.toList == s17.toList)))))
theorem e57 : denF Tryz.prog (GA Tryz.prog) Tryz.f57 [(.agg [.str, .str, (.int .i64)]), (.agg [.str, .str, (.int .i64)])] .leaf = t57 := by kernel_rfl
theorem c57 (x0 : ByteArray)(x1 : ByteArray)(x2 : Int)(x3 : ByteArray)(x4 : ByteArray)(x5 : Int) (h : t57 x0 x1 x2 x3 x4 x5 R w) : Calls Tryz.prog 57 #[.agg #[.string x0, .string x1, .int .i64 x2], .agg #[.string x3, .string x4, .int .i64 x5]] w R := lift mixed Tryz.func57 e57 rfl ((x0, x1, x2, ()), (x3, x4, x5, ()), ()) R w h
end Go.Proofs.YticokfpaoiekgaaGreatDoor
end
section
namespace Go.Proofs.YticokfpaoiekgaaGreatDoor
open Go.Lift Go.Lex Go.Shp
section
variable {s s' : Shape} {w : World} {k : Int} {o n : ByteArray} {ns ps : Sl} {k2 : Int} {o2 n2 : ByteArray} {ns2 ps2 : Sl}
theorem rSame_ok (hv : ShV w k o n ns ps s) (hv2 : ShV w k2 o2 n2 ns2 ps2 s') :
  AnsB 23 #[shArg k o n ns ps, shArg k2 o2 n2 ns2 ps2] w (same s s') := by
 apply c23
 unfold t23 shZ kfZ ld5mZ nw5Z caBZ caIZ ca5Z jnBZ
 refine new_ok fun w1 m10 hm10 hs1 B1 F1 => new_ok fun w2 m11 hm11 hs2 C2 F2 => ?_
 have B2 := B1.fr F2 (fun h => h)
 change Blk w2 m10 _ (shCells k o n ns ps) at B2
 change Blk w2 m11 _ (shCells k2 o2 n2 ns2 ps2) at C2
 have F12 := F1.tr F2
 clear B1
 have fB : ∀ w', Fr noB w2 w' → Held w' (⟨m10, 0, none⟩, [.int .i64 k, .string o, .string n, .slice ns.a ns.n ns.c, .slice ps.a ps.n ps.c]) := fun w' F => (B2.fr F (fun h => h)).heldV
 have fC : ∀ w', Fr noB w2 w' → Held w' (⟨m11, 0, none⟩, [.int .i64 k2, .string o2, .string n2, .slice ns2.a ns2.n ns2.c, .slice ps2.a ps2.n ps2.c]) := fun w' F => (C2.fr F (fun h => h)).heldV
 have hsp : same s s' = (check s == 0 && check s' == 0 && eqS (sortS s) (sortS s')) := rfl
 refine join1_ok (c := .bool) (fun (b : Bool) w' => b = same s s' ∧ Fr noB w w') (fun kj hkj => drew_ok fun w2' F2' z2' => ?_) (fun b w' h => done_b h)
 have G2 := F12.tr F2'
 refine (B2.fr F2' (fun h => h)).ldV (callI_ok (rCheckS_ok (hv.fr G2)) fun w3 F3 => ?_)
 have G3 := G2.tr F3
 have H3 := F2'.tr F3
 refine ite_ok (fun h1 => ?_) fun h1 => hkj _ _ ⟨?_, G3⟩
 ·have h1 : check s = 0 := nat0 h1
  refine (C2.fr H3 (fun h => h)).ldV (callI_ok (rCheckS_ok (hv2.fr G3)) fun w4 F4 => ?_)
  have G4 := G3.tr F4
  have H4 := H3.tr F4
  refine Stay.go (w := w2) (by repeat (first | exact Stay.nil | refine Stay.cons (by assumption) ?_)) H4 ?_
  refine ite_ok (fun h2 => ?_) fun h2 => hkj _ _ ⟨?_, G4⟩
  ·have h2 : check s' = 0 := nat0 h2
   obtain ⟨za, _, fa⟩ := check_ok.1 h1
   obtain ⟨zb, _, fb⟩ := check_ok.1 h2
   refine (B2.fr H4 (fun h => h)).ldV ((C2.fr H4 (fun h => h)).ldV (callSort_ok (rsorted_ok (size s) s (Nat.le_refl _) (by omega) fa (hv.fr G4)) fun k3 o3 n3 ns3 ps3 w5 F5 hs5 => ?_))
   refine Stay.go (w := w2) (by repeat (first | exact Stay.nil | refine Stay.cons (by assumption) ?_)) (H4.tr F5) ?_
   refine callSort_ok (rsorted_ok (size s') s' (Nat.le_refl _) (by omega) fb (hv2.fr (G4.tr F5))) fun k4 o4 n4 ns4 ps4 w6 F6 hs6 => ?_
   have G6 := (G4.tr F5).tr F6
   have H6 := (H4.tr F5).tr F6
   refine Stay.go (w := w2) (by repeat (first | exact Stay.nil | refine Stay.cons (by assumption) ?_)) H6 ?_
   refine callB_ok (requal_ok (size (sortS s)) (sortS s) (sortS s') (Nat.le_refl _) (hs5 w6 (F6.mono fun _ _ h => h.elim)) (hs6 w6 (Fr.refl _ _))) fun w7 F7 => ?_
   refine Stay.go (w := w2) (by repeat (first | exact Stay.nil | refine Stay.cons (by assumption) ?_)) (H6.tr F7) (hkj _ _ ⟨?_, G6.tr F7⟩)
   rw [hsp, h1, h2]
   rfl
  ·have h2 : (check s' == 0) = false := by
    rw [beq_eq_false_iff_ne]
    intro e
    rw [e] at h2
    cases h2
   rw [hsp, h2, Bool.and_false]
   rfl
 ·have h1 : (check s == 0) = false := by
   rw [beq_eq_false_iff_ne]
   intro e
   rw [e] at h1
   cases h1
  rw [hsp, h1]
  rfl
theorem rRank_ok (hv : ShV w k o n ns ps s) (hv2 : ShV w k2 o2 n2 ns2 ps2 s') :
  Calls Tryz.prog 10 #[shArg k o n ns ps, shArg k2 o2 n2 ns2 ps2] w fun e w' => e = .returned (.int .i64 ((rank s s' : Nat) : Int)) ∧ Fr noB w w' := by
 apply c10
 unfold t10 ivZ shZ ld5mZ nw5Z caBZ
 refine new_ok fun w1 m10 hm10 hs1 B1 F1 => new_ok fun w2 m11 hm11 hs2 C2 F2 => ?_
 have B2 := B1.fr F2 (fun h => h)
 change Blk w2 m10 _ (shCells k o n ns ps) at B2
 change Blk w2 m11 _ (shCells k2 o2 n2 ns2 ps2) at C2
 have F12 := F1.tr F2
 clear B1
 have hr : rank s s' = if same s s' then 3 else if isBelow s s' then 2 else if isNear s s' then 1 else 0 := rfl
 refine B2.ldV (C2.ldV (callB_ok (rSame_ok (hv.fr F12) (hv2.fr F12)) fun w3 F3 => ite_ok (fun h => ⟨by rw [hr, h]; rfl, F12.tr F3⟩) fun h1 => ?_))
 refine (B2.fr F3 (fun h => h)).ldV ((C2.fr F3 (fun h => h)).ldV (callB_ok (rBelow_ok (hv.fr (F12.tr F3)) (hv2.fr (F12.tr F3))) fun w4 F4 => ite_ok (fun h => ⟨by rw [hr, h1, h]; rfl, (F12.tr F3).tr F4⟩) fun h2 => ?_))
 have G4 := (F12.tr F3).tr F4
 have H4 := F3.tr F4
 refine (B2.fr H4 (fun h => h)).ldV ((C2.fr H4 (fun h => h)).ldV (callB_ok (rNear_ok (hv.fr G4) (hv2.fr G4)) fun w5 F5 => ite_ok (fun h => ⟨by rw [hr, h1, h2, h]; rfl, G4.tr F5⟩) fun h3 => ⟨by rw [hr, h1, h2, h3]; rfl, G4.tr F5⟩))
end
end Go.Proofs.YticokfpaoiekgaaGreatDoor
end
