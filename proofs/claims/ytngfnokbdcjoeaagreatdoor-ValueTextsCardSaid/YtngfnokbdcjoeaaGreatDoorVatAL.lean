/- The law behind: one part of its proof (joined by program out of my own texts). No condition. -/
import Derived.Test.YtngfnokbdcjoeaaGreatDoorVatAK
import Derived.Lib.SmallJoins
section
namespace Go.Proofs.YtngfnokbdcjoeaaGreatDoor
open Go.Lift Go.Lex
section
variable {w : World} {R : Ending → World → Prop}
theorem zero4_ok {m : Nat} {t : TypeId} {v0 v1 v2 v3 : Value} {c : Int} (B1 : Blk w m t [v0, v1, v2, v3])
  (h : ∀ w', Fr (oneB m) w w' → R (.returned (.tuple #[.agg #[.int .i64 0, .int .i64 0, .int .i64 0, .string ⟨#[]⟩], .int .i64 c])) w') :
  stG (Addr.mk m 0 Option.none) (Value.int IntKind.i64 (0 : Int)) (stG (Addr.mk m 1 Option.none) (Value.int IntKind.i64 (0 : Int)) (stG (Addr.mk m 2 Option.none) (Value.int IntKind.i64 (0 : Int)) (stG (Addr.mk m 3 Option.none) (Value.string (ByteArray.mk #[]))
   (ldG (CT.int IntKind.i64) (Addr.mk m 0 Option.none) (fun (n8 : Int) => ldG (CT.int IntKind.i64) (Addr.mk m 1 Option.none) (fun (n9 : Int) => ldG (CT.int IntKind.i64) (Addr.mk m 2 Option.none) (fun (n10 : Int) => ldG CT.str (Addr.mk m 3 Option.none)
    (fun (s11 : ByteArray) => retG (Value.tuple #[(Value.agg #[(Value.int IntKind.i64 n8), (Value.int IntKind.i64 n9), (Value.int IntKind.i64 n10), (Value.string s11)]), (Value.int IntKind.i64 c)]))))))))) R w := by
 refine B1.st (o := 0) rfl (by simp) fun w1 B1 F1 => B1.st (o := 1) rfl (by simp) fun w2 B2 F2 => B2.st (o := 2) rfl (by simp) fun w3 B3 F3 => B3.st (o := 3) rfl (by simp) fun w4 B4 F4 => ?_
 exact B4.ld (o := 0) rfl (B4.ld (o := 1) rfl (B4.ld (o := 2) rfl (B4.ld (c := .str) (o := 3) rfl (h _ (((F1.sq F2).sq F3).sq F4)))))
theorem atoi_ok (p : ByteArray) (h : digits (bl p) = true) (h6 : p.size ≤ 6) {k : Int → Value → G} (hk : ∀ (v : Nat) w', v ≤ 999999 → Fr noB w w' → k (v : Int) .nilIface R w') :
  callG Tryz.prog 213 #[.string p] [.one (.int .i64), .one .any] k R w := by
 have hpl := bl_length p
 obtain ⟨v, hv, hv6⟩ := atoi_digits h (by omega)
 refine call_ok (Tryz.strconv_Atoi p v (by omega) hv w) ?_
 rintro _ w' ⟨rfl, t, rfl⟩
 exact ⟨((v, ()), (.nilIface, ()), ()), rfl, hk v _ hv6 (fr_below (Joins.below_bytesWorld _ w _ t (Nat.le_refl _)))⟩
set_option maxHeartbeats 2000000 in
theorem Parse_ok (s : ByteArray) (hs : s.size ≤ 1000000) (hg : Glob w) : Calls Tryz.prog 183 #[.string s] w fun e w' =>
  (∃ (x0 x1 x2 : Int) (p : ByteArray), e = .returned (.tuple #[.agg #[.int .i64 x0, .int .i64 x1, .int .i64 x2, .string p], .int .i64 (if verOk (bl s) then 0 else 40)])) ∧ Fr noB w w' := by
 have hsl := bl_length s
 have hver := verOk_eq (bl s)
 have htw := ((bl s).takeWhile_sublist (· != 45)).length_le
 apply c183
 unfold t183 wrZ ivZ tvZ ldIZ ldSZ nwZ caBZ caIZ caLZ caZ jn0Z jnBZ lpIZ ixZ
 refine new_ok fun w1 m1 hm1 hs1 B1 F1 => ?_
 refine call_ok (cut_ok s (by omega) (hg.fr F1)) ?_
 rintro _ w2 ⟨rfl, F2⟩
 generalize hcore : (bl s).takeWhile (· != 45) = core at *
 generalize htail : (bl s).drop core.length = tail at *
 have hpre : tail.tail.length ≤ (bl s).length := by rw [← htail, List.length_tail, List.length_drop]; omega
 refine ⟨((bs core, ()), (bs tail.tail, ()), (!tail.isEmpty, ()), ()), rfl, ?_⟩
 have F12 := F1.tr F2
 have hcs := bs_size core
 refine callSl_ok (split_ok (bs core) (by omega) (hg.fr F12)) fun l5 w3 ⟨hR, F3⟩ => ?_
 rw [bl_bs] at hR
 have hn := hR.1
 rw [List.length_map] at hn
 have F13 := F12.tr F3
 have B3 := (B1.fr F2 (fun h => h)).fr F3 (fun h => h)
 have hm3 := B3.lt
 have bad : ∀ {w' : World} {x : Int}, verOk (bl s) = false → x = 40 → Fr noB w w' → (∃ (x0 x1 x2 : Int) (p : ByteArray), (Ending.returned (.tuple #[.agg #[.int .i64 0, .int .i64 0, .int .i64 0, .string ⟨#[]⟩], .int .i64 x])) = .returned (.tuple #[.agg #[.int .i64 x0, .int .i64 x1, .int .i64 x2, .string p], .int .i64 (if verOk (bl s) then 0 else 40)])) ∧ Fr noB w w' :=
  fun h hx F => ⟨⟨0, 0, 0, ⟨#[]⟩, by rw [h, hx]; rfl⟩, F⟩
 have one : ∀ {w' w'' : World}, Fr noB w w' → Fr (oneB m1) w' w'' → Fr noB w w'' := fun F G => F.then G fun y hy h => by unfold oneB at h; omega
 refine join1_ok (c := .bool) (fun (b : Bool) w' => b = !(decide ((parts core).length = 3) && (tail.isEmpty || !tail.tail.isEmpty)) ∧ w' = w3) (fun k hk => ?_) ?_
 ·rw [eq_bl, bl_bs, bl_empty]
  by_cases h3 : (parts core).length = 3
  ·refine ite_no (by rw [hn, h3]; rfl) (ite_ok (fun h => hk _ _ ⟨?_, rfl⟩) fun h => hk _ _ ⟨?_, rfl⟩)
   ·have h : tail.isEmpty = false := by rwa [Bool.not_eq_true'] at h
    rw [h, decide_eq_true h3]
    cases tail.tail <;> rfl
   ·have h : tail.isEmpty = true := by rwa [Bool.not_eq_false'] at h
    rw [h, decide_eq_true h3]
    rfl
  ·refine ite_yes ?_ (hk _ _ ⟨by rw [decide_eq_false h3]; rfl, rfl⟩)
   rw [hn, bne_iff_ne]
   omega
 rintro b w' ⟨rfl, hw⟩
 replace hw := hw.symm
 subst hw
 refine ite_ok (fun h => zero4_ok B3 fun w' G => ?_) fun h => ?_
 ·rw [Bool.not_eq_true'] at h
  refine bad ?_ rfl (one F13 G)
  rw [hver]
  revert h
  generalize decide ((parts core).length = 3) = x
  generalize (tail.isEmpty || !tail.tail.isEmpty) = y
  cases x <;> cases y <;> simp
 rw [Bool.not_eq_false', Bool.and_eq_true] at h
 obtain ⟨h3, hc⟩ := h
 rw [h3, hc, Bool.true_and, Bool.and_true] at hver
 have h3 := of_decide_eq_true h3
 refine new_ok fun w4 m12 hm12 hs4 B12 F4 => ?_
 have hm := F1.size
 refine join0_ok (fun w' => (parts core).all numOk = true ∧ (∃ xs : List Int, xs.length = 3 ∧ (∀ x ∈ xs, 0 ≤ x ∧ x ≤ 999999) ∧ Blk w' m12 231 (xs.map (.int .i64))) ∧ Fr (oneB m12) w4 w') (fun kend hkend => ?_) ?_
 ·refine count_ok l5.n (by omega) (fun k w' => (∀ i x, i < k → (parts core)[i]? = some x → numOk x = true) ∧ (∃ xs : List Int, xs.length = 3 ∧ (∀ x ∈ xs, 0 ≤ x ∧ x ≤ 999999) ∧ Blk w' m12 231 (xs.map (.int .i64))) ∧ Fr (oneB m12) w4 w') (fun rec k w5 hk hI hrec => ?_)
   ⟨fun i x h => by omega, ⟨[0, 0, 0], rfl, by simp, B12⟩, Fr.refl _ _⟩
  obtain ⟨hall, ⟨xs, hxl, hxr, B5⟩, F5⟩ := hI
  have F35 : Fr noB w3 w5 := F4.then F5 fun y hy h => by unfold oneB at h; omega
  refine ite_ok (fun hlt => ?_) fun hge => hkend _ ⟨?_, ⟨xs, hxl, hxr, B5⟩, F5⟩
  ·have hlt : k < l5.n := by have : (k : Int) < (l5.n : Int) := of_decide_eq_true hlt
                             omega
   obtain ⟨x, a, hx, ha, hc, hidx⟩ := hR.at (k := k) (by rw [List.length_map]; omega)
   rw [List.getElem?_map, Option.map_eq_some_iff] at hx
   obtain ⟨y, hy, rfl⟩ := hx
   rw [ha]
   have hyl : y.length ≤ core.length := parts_each y (List.mem_of_getElem? hy)
   have hys := bs_size y
   refine join_in (hidx (ld_ok (c := .str) (hc _ F35) ?_))
   have hnum : numOk y = (digits y && decide (y.length ≤ 6) && (decide (y.length ≤ 1) || y.head? != some 48)) := rfl
   refine join1_ok (c := .bool) (fun (b : Bool) w' => b = !numOk y ∧ Fr noB w5 w') (fun kj hkj => ?_) ?_
   ·refine callB_ok (digits_ok (bs y) (by omega)) fun w6 F6 => ?_
    rw [bl_bs]
    refine ite_ok (fun h => hkj _ _ ⟨?_, F6⟩) fun h => ite_ok (fun h6 => hkj _ _ ⟨?_, F6⟩) fun h6 => ite_ok (fun h1 => ?_) fun h1 => hkj _ _ ⟨?_, F6⟩
    ·rw [Bool.not_eq_true'] at h
     rw [hnum, h]
     rfl
    ·have h6 : ((bs y).size : Int) > 6 := of_decide_eq_true h6
     rw [hnum, decide_eq_false (p := y.length ≤ 6) (by omega), Bool.and_false]
     rfl
    ·have h1 : ((bs y).size : Int) > 1 := of_decide_eq_true h1
     have h6 : ¬ ((bs y).size : Int) > 6 := of_decide_eq_false h6
     rw [Bool.not_eq_false'] at h
     refine chr_ok (i := 0) (by omega) (hkj _ _ ⟨?_, F6⟩)
     rw [hnum, h, decide_eq_true (p := y.length ≤ 6) (by omega), decide_eq_false (p := y.length ≤ 1) (by omega)]
     cases y with
     | nil => simp only [List.length_nil] at hys; omega
     | cons c r =>
      have e0 : (bl (bs (c :: r)))[0]'(by rw [bl_length]; omega) = c := by simp [bl_bs]
      rw [e0, u8_lit c 48 (z := 48) rfl]
      by_cases hc : c = 48
      ·subst hc; rfl
      ·rw [beq_eq_false_iff_ne.2 hc]; simp only [List.head?_cons, Bool.true_and, Bool.false_or]; simp [hc]
    ·have h1 : ¬ ((bs y).size : Int) > 1 := of_decide_eq_false h1
     rw [Bool.not_eq_false'] at h
     rw [hnum, h, decide_eq_true (p := y.length ≤ 6) (by omega), decide_eq_true (p := y.length ≤ 1) (by omega)]
     rfl
   rintro b w6 ⟨rfl, F6⟩
   have F36 := F35.tr F6
   have B36 := B3.fr F36 (fun h => h)
   have B6 := B5.fr F6 (fun h => h)
   refine ite_ok (fun h => zero4_ok B36 fun w' G => bad ?_ rfl (one (F13.tr F36) G)) fun h => ?_
   ·rw [Bool.not_eq_true'] at h
    have : (parts core).all numOk = false := by
     rw [Bool.eq_false_iff]
     intro e
     have := List.all_eq_true.1 e y (List.mem_of_getElem? hy)
     rw [h] at this
     cases this
    rw [hver, this]
    rfl
   rw [Bool.not_eq_false'] at h
   have hh := h
   rw [hnum] at hh
   simp only [Bool.and_eq_true, decide_eq_true_eq] at hh
   refine atoi_ok (bs y) (by rw [bl_bs]; exact hh.1.1) (by omega) fun v w7 hv F7 => ?_
   have B7 := B6.fr F7 (fun h => h)
   refine idxB_ok (i := k) (by omega) ?_
   rw [Nat.zero_add, Nat.mul_one]
   refine B7.st rfl (by rw [List.length_map]; omega) fun w8 B8 F8 => hrec hlt _ ⟨fun i z hi hz => ?_, ⟨xs.set k v, by rw [List.length_set]; exact hxl, fun x hx => ?_, ?_⟩, ((F5.then F6 fun _ _ h => h.elim).then F7 fun _ _ h => h.elim).sq F8⟩
   ·rcases Nat.lt_succ_iff_lt_or_eq.1 hi with hi | rfl
    ·exact hall i z hi hz
    ·rw [hy] at hz
     cases hz
     exact h
   ·rcases List.mem_or_eq_of_mem_set hx with hx | rfl
    ·exact hxr x hx
    ·omega
   ·rw [List.map_set]
    exact B8
  ·have hge : ¬ (k : Int) < (l5.n : Int) := of_decide_eq_false hge
   rw [List.all_eq_true]
   intro x hx
   obtain ⟨i, hi⟩ := List.mem_iff_getElem?.1 hx
   exact hall i x (by have := (List.getElem?_eq_some_iff.1 hi).1; omega) hi
 rintro w5 ⟨hnums, ⟨xs, hxl, hxr, B5⟩, F5⟩
 rw [hnums, Bool.true_and] at hver
 match xs, hxl with
 | [x0, x1, x2], _ =>
  have hx0 := hxr x0 (by simp)
  have hx1 := hxr x1 (by simp)
  have hx2 := hxr x2 (by simp)
  have F35 : Fr noB w3 w5 := F4.then F5 fun y hy h => by unfold oneB at h; omega
  refine idxB_ok (i := 0) (by omega) (B5.ld (c := .int .i64) (x := x0) rfl (idxB_ok (i := 1) (by omega) (B5.ld (c := .int .i64) (x := x1) rfl (idxB_ok (i := 2) (by omega) (B5.ld (c := .int .i64) (x := x2) rfl ?_)))))
  refine new_ok fun w6 m36 hm36 hs6 B36 F6 => ?_
  have F36 := F35.tr F6
  refine B36.st (o := 0) rfl (by simp) fun w7 B37 F7 => B37.st (o := 1) rfl (by simp) fun w8 B38 F8 => B38.st (o := 2) rfl (by simp) fun w9 B39 F9 => B39.st (o := 3) rfl (by simp) fun w10 B40 F10 => ?_
  have F3x : Fr noB w3 w10 := F36.then (((F7.sq F8).sq F9).sq F10) fun y hy h => by have := F35.size; unfold oneB at h; omega
  have B3x := B3.fr F3x (fun h => h)
  refine B40.ld (c := .int .i64) (x := x0) (o := 0) rfl (B40.ld (c := .int .i64) (x := x1) (o := 1) rfl (B40.ld (c := .int .i64) (x := x2) (o := 2) rfl (B40.ld (c := .str) (x := bs tail.tail) (o := 3) rfl ?_)))
  have hts := bs_size tail.tail
  refine callI_ok (Check_ok hx0 hx1 hx2 (bs tail.tail) (by omega) (hg.fr (F13.tr F3x))) fun w11 F11 => ?_
  have F3y := F3x.tr F11
  have B3y := B3.fr F3y (fun h => h)
  rw [bl_bs, ← hver]
  rcases Bool.eq_false_or_eq_true (verOk (bl s)) with hv | hv
  rotate_left
  ·exact ite_yes (by rw [hv]; rfl) (zero4_ok B3y fun w' G => bad hv (by rw [hv]; rfl) (one (F13.tr F3y) G))
  ·
   have B41 := B40.fr F11 (fun h => h)
   refine ite_no (by rw [hv]; rfl) (B41.ld (c := .int .i64) (x := x0) (o := 0) rfl (B41.ld (c := .int .i64) (x := x1) (o := 1) rfl (B41.ld (c := .int .i64) (x := x2) (o := 2) rfl (B41.ld (c := .str) (x := bs tail.tail) (o := 3) rfl ?_))))
   refine B3y.st (o := 0) rfl (by simp) fun w12 B12 G1 => B12.st (o := 1) rfl (by simp) fun w13 B13 G2 => B13.st (o := 2) rfl (by simp) fun w14 B14 G3 => B14.st (o := 3) rfl (by simp) fun w15 B15 G4 => ?_
   exact B15.ld (c := .int .i64) (x := x0) (o := 0) rfl (B15.ld (c := .int .i64) (x := x1) (o := 1) rfl (B15.ld (c := .int .i64) (x := x2) (o := 2) rfl (B15.ld (c := .str) (x := bs tail.tail) (o := 3) rfl ⟨⟨x0, x1, x2, bs tail.tail, by rw [hv]; rfl⟩, one (F13.tr F3y) (((G1.sq G2).sq G3).sq G4)⟩)))
end
end Go.Proofs.YtngfnokbdcjoeaaGreatDoor
end
section
namespace Go.Lex
variable {c : UInt8} {r : List UInt8}
theorem first_word (h : (small c || great c) = true) : first (c :: r) = if isWord ((c :: r).takeWhile rest) then .ok (5, (c :: r).takeWhile rest, ((c :: r).takeWhile rest).length) else if isName ((c :: r).takeWhile rest) then .ok (1, (c :: r).takeWhile rest, ((c :: r).takeWhile rest).length)
  else if isUpper ((c :: r).takeWhile rest) then .ok (2, (c :: r).takeWhile rest, ((c :: r).takeWhile rest).length) else .error ⟨60, 0⟩ := by
 unfold first
 simp only []
 rw [if_pos h]
theorem first_num (h : (small c || great c) = false) (h2 : digit c = true) : first (c :: r) = if number ((c :: r).takeWhile lump) then .ok (3, (c :: r).takeWhile lump, ((c :: r).takeWhile lump).length) else if verOk ((c :: r).takeWhile lump) then .ok (7, (c :: r).takeWhile lump, ((c :: r).takeWhile lump).length) else .error ⟨60, 0⟩ := by
 unfold first
 simp only []
 rw [if_neg (by rw [h]; decide), if_pos h2]
theorem first_text : first (34 :: r) = match quotedL 1 r [] with
  | .ok (t, n) => .ok (4, t, n)
  | .error e => .error e := rfl
theorem first_sign (h : (small c || great c) = false) (h2 : digit c = false) (h3 : c ≠ 34) : first (c :: r) = if 2 ≤ (c :: r).length ∧ isSign ((c :: r).take 2) then .ok (6, (c :: r).take 2, 2) else if isSign ((c :: r).take 1) then .ok (6, (c :: r).take 1, 1) else .error ⟨60, 0⟩ := by
 unfold first
 simp only []
 rw [if_neg (by rw [h]; decide), if_neg (by rw [h2]; decide), if_neg h3]
end Go.Lex
namespace Go.Lift
theorem callVer_ok {P : Program} {R : Ending → World → Prop} {w : World} {f : FuncId} {args : Array Value} {Y : World → Prop} {x : Int}
  (hc : Calls P f args w fun en w' => (∃ (x0 x1 x2 : Int) (p : ByteArray), en = .returned (.tuple #[.agg #[.int .i64 x0, .int .i64 x1, .int .i64 x2, .string p], .int .i64 x])) ∧ Y w')
  {k : Int → Int → Int → ByteArray → Int → G} (h : ∀ x0 x1 x2 p w', Y w' → k x0 x1 x2 p x R w') : callG P f args [.agg [.int .i64, .int .i64, .int .i64, .str], .one (.int .i64)] k R w :=
 call_ok hc fun _ w' ⟨⟨x0, x1, x2, p, he⟩, hy⟩ => ⟨((x0, x1, x2, p, ()), (x, ()), ()), he, h x0 x1 x2 p w' hy⟩
end Go.Lift
namespace Go.Proofs.YtngfnokbdcjoeaaGreatDoor
open Go.Lift Go.Lex
structure At (w0 w : World) (b m1 m8 : Nat) (s : ByteArray) (i j : Nat) (acc : List Tok) (e a : Int) : Prop where
 st : St w b s j acc e a
 b1 : Blk w m1 157 [.pointer (some ⟨b, 0, none⟩)]
 b8 : Blk w m8 3 [.int .i64 (i : Int)]
 n1 : m1 ≠ b
 n8 : m8 ≠ b
 fr : Fr (bh b) w0 w
section
variable {w0 w w' : World} {b m1 m8 : Nat} {s : ByteArray} {i j : Nat} {acc : List Tok} {e a : Int}
theorem At.go (A : At w0 w b m1 m8 s i j acc e a) (F : Fr noB w w') : At w0 w' b m1 m8 s i j acc e a :=
 ⟨A.st.fr F, A.b1.fr F (fun h => h), A.b8.fr F (fun h => h), A.n1, A.n8, A.fr.sq (F.up b)⟩
theorem At.set {j' : Nat} {e' a' : Int} (A : At w0 w b m1 m8 s i j acc e a) (S : St w' b s j' acc e' a') (F : Fr (oneB b) w w') : At w0 w' b m1 m8 s i j' acc e' a' :=
 ⟨S, A.b1.fr F (fun h => A.n1 h), A.b8.fr F (fun h => A.n8 h), A.n1, A.n8, A.fr.sq F.one⟩
def TokP (w0 : World) (b : Nat) (s : ByteArray) (i : Nat) (acc : List Tok) (e a : Int) : Ending → World → Prop := fun en w' => match first ((bl s).drop i) with
 | .ok (k, T, n) => en = .returned (.bool true) ∧ St w' b s (i + n) (acc ++ [⟨k, T, i⟩]) e a ∧ Fr (bh b) w0 w'
 | .error f => en = .returned (.bool false) ∧ (∃ i', St w' b s i' acc (f.err : Int) ((i + f.at' : Nat) : Int)) ∧ Fr (bh b) w0 w'
theorem add_done {k n : Nat} {T : ByteArray} (A : At w0 w b m1 m8 s i j acc e a) (hf : first ((bl s).drop i) = .ok (k, bl T, n)) (hj : j = i + n) (hacc : acc.length ≤ 1000000) :
  Calls Tryz.prog 180 #[.int .i64 (k : Int), .string T, .pointer (some ⟨m1, 0, none⟩), .pointer (some ⟨m8, 0, none⟩)] w fun en w' => en = .returned (.bool true) ∧ TokP w0 b s i acc e a en w' ∧ Blk w' m1 157 [.pointer (some ⟨b, 0, none⟩)] := by
 subst hj
 refine (add_ok' A.st A.b1 A.b8 A.n8 A.n1 hacc).mono fun en w' ⟨he, hS, hF, hB⟩ => ⟨he, ?_, hB⟩
 unfold TokP
 rw [hf]
 exact ⟨he, hS, A.fr.sq hF⟩
theorem add_ret {k n : Nat} {T : ByteArray} (A : At w0 w b m1 m8 s i j acc e a) (hf : first ((bl s).drop i) = .ok (k, bl T, n)) (hj : j = i + n) (hacc : acc.length ≤ 1000000) :
  callG Tryz.prog 180 #[.int .i64 (k : Int), .string T, .pointer (some ⟨m1, 0, none⟩), .pointer (some ⟨m8, 0, none⟩)] [.one .bool] (fun (x : Bool) => retG (.bool x)) (TokP w0 b s i acc e a) w := by
 refine call_ok (add_done A hf hj hacc) ?_
 rintro _ w' ⟨rfl, hp, _⟩
 exact ⟨((true, ()), ()), rfl, hp⟩
theorem fail_ret (A : At w0 w b m1 m8 s i j acc e a) (hf : first ((bl s).drop i) = .error ⟨60, 0⟩) :
  ldG CT.ptr (Addr.mk m1 0 Option.none) (fun (p : Option Addr) => ldG (CT.int IntKind.i64) (Addr.mk m8 0 Option.none) (fun (n : Int) => callG Tryz.prog 179 #[(Value.pointer p), (Value.int IntKind.i64 (60 : Int)), (Value.int IntKind.i64 n)] [(VT.one CT.bool)] (fun (x : Bool) => retG (Value.bool x)))) (TokP w0 b s i acc e a) w := by
 obtain ⟨l, B, hown⟩ := A.st
 refine A.b1.ld (o := 0) rfl (A.b8.ld (o := 0) rfl (callB_ok (fail_ok B 60 (i : Int)) fun w' ⟨B', F⟩ => ?_))
 show TokP w0 b s i acc e a _ _
 unfold TokP
 rw [hf]
 exact ⟨rfl, ⟨j, l, B', own_one hown F⟩, A.fr.sq F.one⟩
end
end Go.Proofs.YtngfnokbdcjoeaaGreatDoor
end
section
namespace Go.Proofs.YtngfnokbdcjoeaaGreatDoor
open Go.Lift Go.Lex
section
variable {w : World} {b : Nat} {s : ByteArray} {i : Nat}
set_option maxHeartbeats 4000000 in
theorem token_ok {acc : List Tok} {e a : Int} (h : St w b s i acc e a) (hg : GlobB b w) (hs : s.size ≤ 1000000) (hi : i < s.size) (hacc : acc.length ≤ 1000000) :
  Calls Tryz.prog 158 #[.pointer (some ⟨b, 0, none⟩)] w (TokP w b s i acc e a) := by
 have hsl := bl_length s
 apply c158
 unfold t158 wrZ ivZ tvZ ldIZ ldSZ ldPZ nwZ caBZ caSZ caZ jn0Z jnBZ lpIZ
 obtain ⟨l0, B0, hown0⟩ := h
 have hbw := B0.lt
 obtain ⟨c, r, hrem⟩ : ∃ c r, (bl s).drop i = c :: r := by
  cases hd : (bl s).drop i with
  | nil => have := List.drop_eq_nil_iff.1 hd; omega
  | cons c r => exact ⟨c, r, rfl⟩
 obtain ⟨hc, hdr, _⟩ := drop_cons_getD hrem
 have hrl : (c :: r).length = s.size - i := by rw [← hrem, List.length_drop, hsl]
 refine new_ok fun w1 m1 hm1 hs1 M1 F1 => drew_ok fun w2 F2 z2 => ?_
 have M2 := M1.fr F2 (fun h => h)
 have F02 := F1.tr F2
 have B2 := B0.fr F02 (fun h => h)
 refine M2.ld (o := 0) rfl (nn_ok (B2.ld (o := 1) rfl (M2.ld (o := 0) rfl (nn_ok ?_))))
 have peek : ∀ {w' : World}, Fr noB w2 w' → Calls Tryz.prog 154 #[.pointer (some ⟨b, 0, none⟩), .int .i64 ((0 : Nat) : Int)] w' fun e w'' => e = .returned (.int .u8 ((c.toNat : Nat) : Int)) ∧ Fr noB w' w'' := fun F => by
  have := peek_ok (k := 0) (B2.fr F (fun h => h)) hs (by omega)
  rw [Nat.add_zero, hc] at this
  exact this
 have held : ∀ {w' : World}, Fr noB w2 w' → Held w' (⟨m1, 0, none⟩, [.pointer (some ⟨b, 0, none⟩)]) ∧ Held w' (⟨b, 1, none⟩, [.int .i64 (i : Int)]) := fun F => ⟨(M2.fr F (fun h => h)).held1 rfl, (B2.fr F (fun h => h)).held1 rfl⟩
 have start : ∀ {w' : World} {m8 : Nat}, m8 ≠ b → Fr noB w2 w' → Blk w' m8 3 [.int .i64 (i : Int)] → At w w' b m1 m8 s i i acc e a := fun hm F B8 =>
  ⟨⟨l0, B2.fr F (fun h => h), own_fr0 hown0 (F02.tr F)⟩, M2.fr F (fun h => h), B8, by omega, hm, (F02.tr F).up b⟩
 refine both_ok ?ga ?gb
 case' ga =>
  refine callU8_ok (peek (Fr.refl _ _)) fun w3 F3 => ?_
  have H3 := held F3
  refine keep_cons H3.1 (keep_cons H3.2 (keep_cons H3.1 (keep_nil (new_ok fun w4 m8 hm8 hs4 B8 F4 => ?_))))
  have H4 := held (F3.tr F4)
  have := F3.size
  have := F02.size
  refine keep_cons H4.1 (keep_cons H4.2 (keep_cons H4.1 (keep_nil (B8.st (o := 0) rfl (by simp) fun w5 B85 F5 => ?_))))
  have F25 : Fr noB w2 w5 := (F3.tr F4).then F5 fun y hy h => by unfold oneB at h; omega
  refine keep_cons (held F25).1 (keep_nil ?_)
  have A5 := start (by omega) F25 B85
 case' gb =>
  refine new_ok fun w3 m8 hm8 hs3 B8 F3 => ?_
  have H3 := held F3
  have := F02.size
  refine keep_cons H3.1 (keep_cons H3.2 (keep_cons H3.1 (keep_nil (callU8_ok (peek F3) fun w4 F4 => ?_))))
  have H4 := held (F3.tr F4)
  refine keep_cons H4.1 (keep_cons H4.2 (keep_cons H4.1 (keep_nil ((B8.fr F4 (fun h => h)).st (o := 0) rfl (by simp) fun w5 B85 F5 => ?_))))
  have F25 : Fr noB w2 w5 := (F3.tr F4).then F5 fun y hy h => by unfold oneB at h; omega
  refine keep_cons (held F25).1 (keep_nil ?_)
  have A5 := start (by omega) F25 B85
 all_goals
  clear held peek start
  refine join0_ok (fun w' => (small c || great c) = false ∧ digit c = false ∧ c ≠ 34 ∧ At w w' b m1 m8 s i i acc e a) (fun k9 hk9 => ?_) ?_
  ·refine join1_ok (c := .bool) (fun (x : Bool) w' => x = (small c || great c) ∧ At w w' b m1 m8 s i i acc e a) (fun k10 hk10 => ?_) ?_
   ·exact callB_ok (small_ok c) fun w6 F6 => ite_ok (fun h => hk10 _ _ ⟨by rw [h]; rfl, A5.go F6⟩) fun h => callB_ok (great_ok c) fun w7 F7 => hk10 _ _ ⟨by rw [h]; rfl, (A5.go F6).go F7⟩
   rintro x w6 ⟨rfl, A6⟩
   refine ite_ok (fun halpha => ?_) fun halpha => ?_
   ·obtain ⟨l, B, hown⟩ := A6.st
    refine A6.b1.ld (o := 0) rfl (nn_ok (callS_ok (while_ok B hs (by omega) pred_rest) fun w7 ⟨B7, F7⟩ => ?_))
    have A7 := A6.set ⟨l, B7, own_one hown F7⟩ F7
    have hf := first_word (r := r) halpha
    have hTl := ((c :: r).takeWhile_sublist rest).length_le
    rw [hrem] at A7 ⊢
    generalize (c :: r).takeWhile rest = T at *
    have hTs : (bs T).size < 4611686018427387904 := by rw [bs_size]; omega
    refine join0_ok (fun w' => first (c :: r) = .error ⟨60, 0⟩ ∧ At w w' b m1 m8 s i (i + T.length) acc e a) (fun k17 hk17 => ?_) (fun w' ⟨hf, A⟩ => fail_ret A (by rw [hrem, hf]))
    refine callB_ok (Word_ok (bs T)) fun w8 F8 => ?_
    rw [bl_bs]
    refine ite_ok (fun hw => add_ret (A7.go F8) (k := 5) (n := T.length) (by rw [hrem, hf, if_pos hw, bl_bs]) rfl hacc) fun hw => callB_ok (Name_ok (bs T) hTs) fun w9 F9 => ?_
    rw [bl_bs]
    rw [hw, if_neg (by decide)] at hf
    refine ite_ok (fun hw => add_ret ((A7.go F8).go F9) (k := 1) (n := T.length) (by rw [hrem, hf, if_pos hw, bl_bs]) rfl hacc) fun hw => callB_ok (Upper_ok (bs T) hTs) fun w10 F10 => ?_
    rw [bl_bs]
    rw [hw, if_neg (by decide)] at hf
    refine ite_ok (fun hw => add_ret (((A7.go F8).go F9).go F10) (k := 2) (n := T.length) (by rw [hrem, hf, if_pos hw, bl_bs]) rfl hacc) fun hw => hk17 _ ⟨?_, ((A7.go F8).go F9).go F10⟩
    rw [hf, hw, if_neg (by decide)]
   ·refine callB_ok (digit_ok c) fun w7 F7 => ite_ok (fun hdig => ?_) fun hdig => ?_
    ·have A7 := A6.go F7
     obtain ⟨l, B, hown⟩ := A7.st
     refine A7.b1.ld (o := 0) rfl (nn_ok (callS_ok (while_ok B hs (by omega) pred_lump) fun w8 ⟨B8', F8⟩ => ?_))
     have A8 := A7.set ⟨l, B8', own_one hown F8⟩ F8
     have hf := first_num (r := r) halpha hdig
     have hTl := ((c :: r).takeWhile_sublist lump).length_le
     have hlump : lump c = true := by unfold lump; rw [hdig]; simp
     have hT0 : (c :: r).takeWhile lump = c :: r.takeWhile lump := by rw [List.takeWhile_cons, hlump]; rfl
     rw [hrem] at A8 ⊢
     generalize (c :: r).takeWhile lump = T at *
     have hTs : (bs T).size = T.length := bs_size T
     refine join1_ok (c := .bool) (fun (x : Bool) w' => x = number T ∧ At w w' b m1 m8 s i (i + T.length) acc e a) (fun k31 hk31 => ?_) ?_
     ·refine callS_ok (trim_ok (bs T) (by omega)) fun w9 F9 => ?_
      have hz : (((bs (Lib.trimS (bl (bs T)) ten)).size : Int) == 0) = T.all digit := by
       rw [bl_bs, ← ten_all, Bool.eq_iff_iff, ← trimS_nil, beq_iff_eq, bs_size, ← List.length_eq_zero_iff]
       omega
      have hnum : number T = (T.all digit && decide (T.length ≤ 15) && (T == [48] || T.head? != some 48)) := rfl
      rw [hz]
      refine ite_ok (fun hd => ite_ok (fun h15 => ?_) fun h15 => hk31 _ _ ⟨?_, A8.go F9⟩) fun hd => hk31 _ _ ⟨by rw [hnum, hd]; rfl, A8.go F9⟩
      ·have h15 : ((bs T).size : Int) ≤ 15 := of_decide_eq_true h15
       have hnum : number T = (T == [48] || T.head? != some 48) := by rw [hnum, hd, decide_eq_true (p := T.length ≤ 15) (by omega)]; rfl
       rw [eq_bl, bl_bs]
       refine ite_ok (fun h48 => hk31 _ _ ⟨?_, A8.go F9⟩) fun h48 => ?_
       ·have h48 : (T == [48]) = true := h48
        rw [hnum, h48]
        rfl
       ·have h48 : (T == [48]) = false := h48
        refine chr_ok (i := 0) (by rw [hTs, hT0]; simp) (hk31 _ _ ⟨?_, A8.go F9⟩)
        rw [hnum, h48, Bool.false_or]
        have e0 : (bl (bs T))[0]'(by rw [bl_length, hTs, hT0]; simp) = c := by simp [bl_bs, hT0]
        rw [e0, hT0, List.head?_cons]
        have := u8_lit c 48 (z := 48) rfl
        rw [bne, this, Bool.eq_iff_iff]
        simp
      ·have h15 : ¬ ((bs T).size : Int) ≤ 15 := of_decide_eq_false h15
       rw [hnum, hd, decide_eq_false (p := T.length ≤ 15) (by omega)]
       rfl
     rintro x w9 ⟨rfl, A9⟩
     refine ite_ok (fun hn => add_ret A9 (k := 3) (n := T.length) (by rw [hrem, hf, if_pos hn, bl_bs]) rfl hacc) fun hn => ?_
     rw [hn, if_neg (by decide)] at hf
     refine callVer_ok (Parse_ok (bs T) (by omega) (hg.fr A9.fr).glob) fun x0 x1 x2 p w10 F10 => ?_
     rw [bl_bs]
     refine new_ok fun w11 m41 hm41 hs11 B41 F11 => ?_
     refine B41.st (o := 0) (v := .int .i64 x0) rfl (by simp) fun w12 B42 F12 => B42.st (o := 1) (v := .int .i64 x1) rfl (by simp) fun w13 B43 F13 => B43.st (o := 2) (v := .int .i64 x2) rfl (by simp) fun w14 B44 F14 => B44.st (o := 3) (v := .string p) rfl (by simp) fun w15 B45 F15 => ?_
     have A15 := A9.go ((F10.tr F11).then (((F12.sq F13).sq F14).sq F15) fun y hy h => by have := F10.size; unfold oneB at h; omega)
     rcases Bool.eq_false_or_eq_true (verOk T) with hv | hv
     ·rw [hv, if_pos rfl] at hf
      exact ite_yes (by rw [hv]; rfl) (add_ret A15 (k := 7) (n := T.length) (by rw [hrem, hf, bl_bs]) rfl hacc)
     ·rw [hv, if_neg (by decide)] at hf
      exact ite_no (by rw [hv]; rfl) (fail_ret A15 (by rw [hrem, hf]))
    ·have A7 := A6.go F7
     rw [u8_lit c 34 (z := 34) rfl]
     by_cases h34 : c = 34
     ·subst h34
      refine ite_yes rfl (A7.b1.ld (o := 0) rfl (call_ok (quoted_ok A7.st (hg.fr A7.fr) hs hi) ?_))
      intro en w8 hp
      rw [hdr] at hp
      have hft := first_text (r := r)
      cases hq : quotedL 1 r [] with
      | ok tn =>
       obtain ⟨T, n⟩ := tn
       rw [hq] at hp hft
       obtain ⟨rfl, hS, hF⟩ := hp
       refine ⟨((bs T, ()), (true, ()), ()), rfl, ?_⟩
       exact add_ret (A7.set hS hF) (k := 4) (n := n) (by rw [hrem, hft, bl_bs]) rfl hacc
      | error f =>
       rw [hq] at hp hft
       obtain ⟨rfl, ⟨i', hS⟩, hF⟩ := hp
       refine ⟨((⟨#[]⟩, ()), (false, ()), ()), rfl, ?_⟩
       show TokP w b s i acc e a _ _
       unfold TokP
       rw [hrem, hft]
       exact ⟨rfl, ⟨i', hS⟩, (A7.set hS hF).fr⟩
     ·exact ite_no (beq_eq_false_iff_ne.2 h34) (hk9 _ ⟨halpha, hdig, h34, A7⟩)
  rintro w6 ⟨halpha, hdig, h34, A6⟩
  have hf := first_sign (r := r) halpha hdig h34
  refine join0_ok (fun w' => first (c :: r) = .error ⟨60, 0⟩ ∧ At w w' b m1 m8 s i i acc e a) (fun kend hkend => ?_) (fun w' ⟨hf, A⟩ => fail_ret A (by rw [hrem, hf]))
  refine loop1_ok (c := .int .i64) (fun (n : Int) w' => ∃ k : Nat, n = (k : Int) ∧ k ≤ 2 ∧ At w w' b m1 m8 s i i acc e a ∧ first (c :: r) = (if 2 ≤ k ∧ 2 ≤ (c :: r).length ∧ isSign ((c :: r).take 2) = true then .ok (6, (c :: r).take 2, 2) else if 1 ≤ k ∧ isSign ((c :: r).take 1) = true then .ok (6, (c :: r).take 1, 1) else .error ⟨60, 0⟩))
   (fun (n : Int) => n.toNat) ?_ ⟨2, rfl, Nat.le_refl _, A6, by rw [hf]; simp only [Nat.le_refl, true_and, Nat.reduceLeDiff]⟩
  rintro rec n w7 ⟨k, rfl, hk, A7, hfk⟩ hrec
  refine ite_ok (fun hpos => ?_) fun hpos => hkend _ ⟨?_, A7⟩
  ·have hpos : (k : Int) > 0 := of_decide_eq_true hpos
   refine join_in ?_
   refine join1_ok (c := .bool) (fun (x : Bool) w' => x = (decide (k ≤ (c :: r).length) && isSign ((c :: r).take k)) ∧ At w w' b m1 m8 s i i acc e a) (fun k56 hk56 => ?_) ?_
   ·refine drew_ok fun w8 F8' z8 => ?_
    have A8 := A7.go F8'
    obtain ⟨l, B, hown⟩ := A8.st
    refine A8.b8.ld (o := 0) rfl (A8.b1.ld (o := 0) rfl (nn_ok (B.ld (o := 0) rfl ?_)))
    have ew : IntKind.wrap .i64 ((i : Int) + (k : Int)) = ((i + k : Nat) : Int) := by rw [wrap_ok (by omega) (by omega)]; omega
    rw [ew]
    refine ite_ok (fun hle => ?_) fun hle => hk56 _ _ ⟨?_, A8⟩
    ·have hle : ((i + k : Nat) : Int) ≤ (s.size : Int) := of_decide_eq_true hle
     refine A8.b1.ld (o := 0) rfl (nn_ok (B.ld (o := 0) rfl (A8.b8.ld (o := 0) rfl (A8.b8.ld (o := 0) rfl ?_))))
     rw [ew]
     refine sub_ok (s := s) (l := (i : Int)) (h' := ((i + k : Nat) : Int)) (by omega) (by omega) (by omega) ?_
     have e8 : bl (s.extract ((i : Int)).toNat (((i + k : Nat) : Int)).toNat) = (c :: r).take k := by
      rw [bl_extract, Int.toNat_natCast, Int.toNat_natCast, Nat.add_sub_cancel_left, hrem]
     refine callB_ok (Sign_ok _) fun w9 F9 => ?_
     rw [e8]
     have A9 := A8.go F9
     have B9 := B.fr F9 (fun h => h)
     refine keep_cons (A9.b8.held1 rfl) (keep_cons (A9.b1.held1 rfl) (keep_cons (B9.held1 rfl) (keep_cons (A9.b1.held1 rfl) (keep_cons (A9.b8.held1 rfl) (keep_nil (hk56 _ _ ⟨?_, A9⟩))))))
     rw [decide_eq_true (by omega), Bool.true_and]
    ·have hle : ¬ ((i + k : Nat) : Int) ≤ (s.size : Int) := of_decide_eq_false hle
     rw [decide_eq_false (by omega), Bool.false_and]
   rintro x w8 ⟨rfl, A8⟩
   refine ite_ok (fun hsg => ?_) fun hsg => ?_
   ·rw [Bool.and_eq_true, decide_eq_true_eq] at hsg
    have hfk : first (c :: r) = .ok (6, (c :: r).take k, k) := by
     rcases (show k = 1 ∨ k = 2 by omega) with rfl | rfl
     ·rw [hfk, if_neg (by omega), if_pos ⟨Nat.le_refl _, hsg.2⟩]
     ·rw [hfk, if_pos ⟨Nat.le_refl _, hsg.1, hsg.2⟩]
    obtain ⟨l, B, hown⟩ := A8.st
    refine A8.b1.ld (o := 0) rfl (nn_ok (B.ld (o := 1) rfl (nn_ok (B.st (o := 1) rfl (by simp) fun w9 B9 F9 => drew_ok fun w10 F10 z10 => ?_))))
    have ew : IntKind.wrap .i64 ((i : Int) + (k : Int)) = ((i + k : Nat) : Int) := by rw [wrap_ok (by omega) (by omega)]; omega
    rw [ew] at B9
    have A9 : At w w9 b m1 m8 s i (i + k) acc e a := A8.set ⟨l, B9, own_one hown F9⟩ F9
    have A10 := A9.go F10
    have B10 := B9.fr F10 (fun h => h)
    refine A10.b1.ld (o := 0) rfl (nn_ok (B10.ld (o := 0) rfl (A10.b8.ld (o := 0) rfl (A10.b1.ld (o := 0) rfl (nn_ok (B10.ld (o := 1) rfl ?_))))))
    refine sub_ok (s := s) (l := (i : Int)) (h' := ((i + k : Nat) : Int)) (by omega) (by omega) (by omega) ?_
    have e8 : bl (s.extract ((i : Int)).toNat (((i + k : Nat) : Int)).toNat) = (c :: r).take k := by
     rw [bl_extract, Int.toNat_natCast, Int.toNat_natCast, Nat.add_sub_cancel_left, hrem]
    refine call_ok (add_done A10 (k := 6) (n := k) (by rw [hrem, hfk, e8]) rfl hacc) ?_
    rintro _ w11 ⟨rfl, hp, hB⟩
    exact ⟨((true, ()), ()), rfl, keep_cons (hB.held1 rfl) (keep_cons (hB.held1 rfl) (keep_nil hp))⟩
   ·have ew : IntKind.wrap .i64 ((k : Int) - 1) = ((k - 1 : Nat) : Int) := by rw [wrap_ok (by omega) (by omega)]; omega
    rw [ew]
    refine hrec _ _ ⟨k - 1, rfl, by omega, A8, ?_⟩ (by simp only [Int.toNat_natCast]; omega)
    rcases (show k = 1 ∨ k = 2 by omega) with rfl | rfl
    ·have h1 : ¬ (1 ≤ 1 ∧ isSign ((c :: r).take 1) = true) := by
      rintro ⟨_, h⟩
      rw [h, decide_eq_true (by simp)] at hsg
      cases hsg
     rw [hfk, if_neg (by omega), if_neg h1, if_neg (by omega), if_neg (by omega)]
    ·have h1 : ¬ (2 ≤ 2 ∧ 2 ≤ (c :: r).length ∧ isSign ((c :: r).take 2) = true) := by
      rintro ⟨_, h1, h2⟩
      rw [h2, decide_eq_true h1] at hsg
      cases hsg
     rw [hfk, if_neg h1]
     simp
  ·have hpos : ¬ (k : Int) > 0 := of_decide_eq_false hpos
   rw [hfk, if_neg (by omega), if_neg (by omega)]
end
end Go.Proofs.YtngfnokbdcjoeaaGreatDoor
end
section
namespace Go.Lex
theorem quotedF_end : ∀ (f i : Nat) (s out : B) (t : B) (n : Nat), quotedF f i s out = .ok (t, n) → i < n ∧ n ≤ i + s.length
 | 0, i, s, out, t, n, h => by simp [quotedF] at h
 | f + 1, i, [], out, t, n, h => by simp [quotedF] at h
 | f + 1, i, c :: r, out, t, n, h => by
  unfold quotedF at h
  split at h
  ·simp only [Except.ok.injEq, Prod.mk.injEq] at h
   simp only [List.length_cons]
   omega
  split at h
  ·cases h
  split at h
  ·cases r with
   | nil => cases h
   | cons e r' =>
    simp only [] at h
    cases he : esc e with
    | none => rw [he] at h; cases h
    | some b =>
     rw [he] at h
     have := quotedF_end f _ _ _ _ _ h
     simp only [List.length_cons]
     omega
  ·have hle := utfLen_le (c :: r)
   cases hu : utfLen (c :: r) with
   | zero => rw [hu] at h; cases h
   | succ k =>
    rw [hu] at h hle
    have := quotedF_end f _ _ _ _ _ h
    rw [List.length_drop] at this
    omega
theorem first_pos {s t : B} {k n : Nat} (h : first s = .ok (k, t, n)) : 1 ≤ n ∧ n ≤ s.length := by
 cases s with
 | nil => cases h
 | cons c r =>
  unfold first at h
  simp only [] at h
  split at h
  ·rename_i hal
   have h0 : rest c = true := by unfold rest; rw [hal]; simp
   have h1 : 1 ≤ ((c :: r).takeWhile rest).length := by rw [List.takeWhile_cons, h0]; simp
   have h2 := ((c :: r).takeWhile_sublist rest).length_le
   repeat' split at h
   all_goals first | (simp only [Except.ok.injEq, Prod.mk.injEq] at h; omega) | cases h
  split at h
  ·rename_i hal
   have h0 : lump c = true := by unfold lump; rw [hal]; simp
   have h1 : 1 ≤ ((c :: r).takeWhile lump).length := by rw [List.takeWhile_cons, h0]; simp
   have h2 := ((c :: r).takeWhile_sublist lump).length_le
   repeat' split at h
   all_goals first | (simp only [Except.ok.injEq, Prod.mk.injEq] at h; omega) | cases h
  split at h
  ·split at h
   ·rename_i t' n' hq
    have := quotedF_end _ _ _ _ _ _ hq
    simp only [Except.ok.injEq, Prod.mk.injEq] at h
    simp only [List.length_cons]
    omega
   ·cases h
  split at h
  ·rename_i h2
   simp only [Except.ok.injEq, Prod.mk.injEq] at h
   omega
  split at h
  ·simp only [Except.ok.injEq, Prod.mk.injEq] at h
   simp only [List.length_cons]
   omega
  ·cases h
def comment (s : B) : B := s.takeWhile (· != 10)
theorem comment_pos (r : B) : 1 ≤ (comment (45 :: r)).length := by simp [comment]
theorem scanF_fuel : ∀ (f g i : Nat) (s : B) (acc : List Tok), s.length < f → s.length < g → scanF f i s acc = scanF g i s acc
 | 0, _, _, _, _, h, _ => by omega
 | _, 0, _, _, _, _, h => by omega
 | f + 1, g + 1, i, [], acc, _, _ => rfl
 | f + 1, g + 1, i, c :: r, acc, hf, hg => by
  simp only [List.length_cons] at hf hg
  unfold scanF
  split
  ·exact scanF_fuel f g _ _ _ (by omega) (by omega)
  split
  ·rename_i h
   have h1 : 1 ≤ ((c :: r).takeWhile (· != 10)).length := by rw [h.1]; exact comment_pos r
   simp only []
   cases utfBad ((c :: r).takeWhile (· != 10)) with
   | some k => rfl
   | none => exact scanF_fuel f g _ _ _ (by rw [List.length_drop, List.length_cons]; omega) (by rw [List.length_drop, List.length_cons]; omega)
  ·cases hfst : first (c :: r) with
   | error e => rfl
   | ok x =>
    obtain ⟨k, t, n⟩ := x
    have := first_pos hfst
    exact scanF_fuel f g _ _ _ (by rw [List.length_drop, List.length_cons]; omega) (by rw [List.length_drop, List.length_cons]; omega)
def scanL (i : Nat) (s : B) (acc : List Tok) : Except Fault (List Tok) := scanF (s.length + 1) i s acc
theorem scanL_F {f i : Nat} {s : B} {acc : List Tok} (h : s.length < f) : scanF f i s acc = scanL i s acc := scanF_fuel _ _ _ _ _ h (Nat.lt_succ_self _)
theorem scanL_nil (i : Nat) (acc : List Tok) : scanL i [] acc = .ok (acc ++ [⟨0, [], i⟩]) := rfl
theorem scanL_blank {i : Nat} {c : UInt8} {r : B} {acc : List Tok} (h : blank c = true) : scanL i (c :: r) acc = scanL (i + 1) r acc := by
 conv => lhs; unfold scanL scanF
 rw [if_pos h]
 exact scanL_F (by simp)
theorem scanL_line {i : Nat} {c : UInt8} {r : B} {acc : List Tok} (h : blank c = false) (h2 : c = 45 ∧ r.head? = some 45) : scanL i (c :: r) acc = match utfBad (comment (c :: r)) with
  | some k => .error ⟨30, i + k⟩
  | none => scanL (i + (comment (c :: r)).length) ((c :: r).drop (comment (c :: r)).length) acc := by
 have h1 : 1 ≤ ((c :: r).takeWhile (· != 10)).length := by rw [h2.1]; exact comment_pos r
 conv => lhs; unfold scanL scanF
 rw [if_neg (by rw [h]; decide), if_pos h2]
 simp only [comment]
 cases utfBad ((c :: r).takeWhile (· != 10)) with
 | some k => rfl
 | none => exact scanL_F (by rw [List.length_drop, List.length_cons]; omega)
theorem scanL_tok {i : Nat} {c : UInt8} {r : B} {acc : List Tok} (h : blank c = false) (h2 : ¬ (c = 45 ∧ r.head? = some 45)) : scanL i (c :: r) acc = match first (c :: r) with
  | .error e => .error ⟨e.err, i + e.at'⟩
  | .ok (k, t, n) => scanL (i + n) ((c :: r).drop n) (acc ++ [⟨k, t, i⟩]) := by
 conv => lhs; unfold scanL scanF
 rw [if_neg (by rw [h]; decide), if_neg h2]
 cases hfst : first (c :: r) with
 | error e => rfl
 | ok x =>
  obtain ⟨k, t, n⟩ := x
  have := first_pos hfst
  exact scanL_F (by rw [List.length_drop, List.length_cons]; omega)
theorem scan_L {s : B} (h : s.length ≤ 4096) : scan s = scanL 0 s [] := by unfold scan; rw [if_neg (by omega)]; rfl
theorem scan_big {s : B} (h : 4096 < s.length) : scan s = .error ⟨3, 4096⟩ := by unfold scan; rw [if_pos h]
end Go.Lex
end
