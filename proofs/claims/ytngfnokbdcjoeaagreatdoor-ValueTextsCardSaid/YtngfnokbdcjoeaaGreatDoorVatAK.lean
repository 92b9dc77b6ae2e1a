/- The law behind: one part of its proof (joined by program out of my own texts). No condition. -/
import Derived.Test.YtngfnokbdcjoeaaGreatDoorVatAJ
import Derived.Lib.Split
import Derived.Lib.Atoi
section
namespace Go.Lex
theorem esc_at (e : UInt8) : (esc e = none ∧ Lib.indexByte [110, 116, 34, 92] e = -1) ∨ ∃ k : Nat, k < 4 ∧ Lib.indexByte [110, 116, 34, 92] e = (k : Int) ∧ esc e = some ([10, 9, 34, 92].getD k 0) := by
 by_cases h1 : e = 110
 ·subst h1; exact .inr ⟨0, by decide, by decide, by decide⟩
 by_cases h2 : e = 116
 ·subst h2; exact .inr ⟨1, by decide, by decide, by decide⟩
 by_cases h3 : e = 34
 ·subst h3; exact .inr ⟨2, by decide, by decide, by decide⟩
 by_cases h4 : e = 92
 ·subst h4; exact .inr ⟨3, by decide, by decide, by decide⟩
 refine .inl ⟨by unfold esc; rw [if_neg h1, if_neg h2, if_neg h3, if_neg h4], ?_⟩
 have e1 : ¬ (110 : UInt8) = e := fun h => h1 h.symm
 have e2 : ¬ (116 : UInt8) = e := fun h => h2 h.symm
 have e3 : ¬ (34 : UInt8) = e := fun h => h3 h.symm
 have e4 : ¬ (92 : UInt8) = e := fun h => h4 h.symm
 simp [Lib.indexByte, e1, e2, e3, e4]
theorem drop_nil_getD {l : B} {n : Nat} (h : l.drop n = []) : l.getD n 0 = 0 := by
 rw [List.getD_eq_getElem?_getD, List.getElem?_eq_none (List.drop_eq_nil_iff.1 h)]
 rfl
theorem drop_cons_getD {l r : B} {c : UInt8} {n : Nat} (h : l.drop n = c :: r) : l.getD n 0 = c ∧ l.drop (n + 1) = r ∧ n < l.length := by
 have hn : n < l.length := by
  have := congrArg List.length h
  rw [List.length_drop, List.length_cons] at this
  omega
 have e := List.drop_eq_getElem_cons hn
 rw [e] at h
 cases h
 refine ⟨?_, rfl, hn⟩
 rw [List.getD_eq_getElem?_getD, List.getElem?_eq_getElem hn]
 rfl
end Go.Lex
namespace Go.Proofs.YtngfnokbdcjoeaaGreatDoor
open Go.Lift Go.Lex
theorem uBytes : Tryz.prog.underlying 98 = some (.slice 5) := by kernel_rfl
theorem uByte : Tryz.prog.underlying 5 = some (.int .u8) := by kernel_rfl
theorem rByte : rowSays Tryz.prog 5 1 1 #[.int .u8 0] := rowSays_of (by kernel_rfl)
theorem rByte' : ∃ i, Tryz.prog.info? 5 = some i ∧ i.zero = some (.int .u8 0) ∧ i.size = 1 ∧ i.bytes = 1 := by
 have h : (Tryz.prog.info? 5).map (fun i => (i.zero, i.size, i.bytes)) = some (some (.int .u8 0), 1, 1) := by kernel_rfl
 cases hi : Tryz.prog.info? 5 with
 | none => rw [hi] at h; cases h
 | some i =>
  rw [hi] at h
  simp only [Option.map_some, Option.some.injEq, Prod.mk.injEq] at h
  exact ⟨i, rfl, h.1, h.2.1, h.2.2⟩
section
variable {w : World} {b : Nat} {t : TypeId} {s : ByteArray} {i : Nat}
theorem back_ok {R : Ending → World → Prop} {base : Nat} {l : Sl} {n : Nat} {x : List UInt8} (hn : n = x.length) (h : w.ownsRow base 5 1 (.slice l.a l.n l.c) n (byteCells x)) {k : ByteArray → G} (hk : k (bs x) R w) :
  opG Tryz.prog (convert 98 9 (.slice l.a l.n l.c)) (.one .str) k R w := by
 subst hn
 rcases h.2 with ⟨hv, hn⟩ | ⟨g, cap, cur, hv, _⟩
 ·have hl : x = [] := List.eq_nil_of_length_eq_zero hn
  subst hl
  rw [hv]
  exact ⟨(ByteArray.empty, ()), w, run_convert_bytes_nil _ 98 5 uBytes uByte 0 0 9 us, hk⟩
 ·have hc := h.cells (g := g) (by rw [hv]; rfl)
  rw [hv]
  refine ⟨(bs x, ()), w, run_convert_bytes_back _ 98 9 5 ⟨g, 0, none⟩ cap x uBytes uByte us (fun j hj => ?_), hk⟩
  exact hc j _ (by unfold byteCells; rw [List.getElem?_map, List.getElem?_eq_getElem hj]; rfl)
set_option maxHeartbeats 2000000 in
theorem quoted_ok {acc : List Tok} {e a : Int} (h : St w b s i acc e a) (hg : GlobB b w) (hs : s.size ≤ 1000000) (hi : i < s.size) :
  Calls Tryz.prog 184 #[.pointer (some ⟨b, 0, none⟩)] w fun en w' => match quotedL 1 ((bl s).drop (i + 1)) [] with
   | .ok (T, n) => en = .returned (.tuple #[.string (bs T), .bool true]) ∧ St w' b s (i + n) acc e a ∧ Fr (oneB b) w w'
   | .error f => en = .returned (.tuple #[.string ⟨#[]⟩, .bool false]) ∧ (∃ i', St w' b s i' acc (f.err : Int) ((i + f.at' : Nat) : Int)) ∧ Fr (oneB b) w w' := by
 have hsl := bl_length s
 obtain ⟨l, B, hown⟩ := h
 have hbw := B.lt
 apply c184
 unfold t184 wrZ ivZ tvZ ldIZ nwZ caBZ caIZ caSZ caZ jn0Z jnLZ
 refine nn_ok (B.ld (o := 1) rfl (nn_ok (B.ld (o := 1) rfl (nn_ok (B.st (o := 1) rfl (by simp) fun w1 B1 F1 => ?_)))))
 have e1 : IntKind.wrap .i64 ((i : Int) + 1) = ((i + 1 : Nat) : Int) := by rw [wrap_ok (by omega) (by omega)]; omega
 have B1 : Blk w1 b 161 [.string s, .int .i64 ((i + 1 : Nat) : Int), .slice l.a l.n l.c, .int .i64 e, .int .i64 a] := by rw [← e1]; exact B1
 refine join0_ok (fun w' => quotedL 1 ((bl s).drop (i + 1)) [] = .error ⟨60, 0⟩ ∧ (∃ i' : Nat, Blk w' b 161 [.string s, .int .i64 (i' : Int), .slice l.a l.n l.c, .int .i64 e, .int .i64 a]) ∧ Fr (oneB b) w w') (fun kend hkend => ?_) ?_
 ·refine loopN_ok (vs := [.one .slice]) (fun m xs w' => ∃ (j : Nat) (out : List UInt8), m = s.size - (i + j) ∧ Blk w' b 161 [.string s, .int .i64 ((i + j : Nat) : Int), .slice l.a l.n l.c, .int .i64 e, .int .i64 a] ∧ Fr (oneB b) w w' ∧
    w'.ownsRow w.heap.size 5 1 (.slice (show Sl from xs.1.1).a (show Sl from xs.1.1).n (show Sl from xs.1.1).c) out.length (byteCells out) ∧ i + j ≤ s.size ∧ out.length ≤ j ∧ quotedL 1 ((bl s).drop (i + 1)) [] = quotedL j ((bl s).drop (i + j)) out) ?_ (n := s.size - (i + 1)) (xs := (((⟨none, 0, 0⟩ : Sl), ()), ()))
   ⟨1, [], rfl, B1, F1, ⟨rfl, .inl ⟨rfl, rfl⟩⟩, by omega, by simp, rfl⟩
  rintro m rec ⟨⟨l8, ⟨⟩⟩, ⟨⟩⟩ w2 ⟨j, out, rfl, B2, F2, hO, hj, hol, hq⟩ hrec
  change Sl at l8
  change w2.ownsRow _ _ _ (.slice l8.a l8.n l8.c) _ _ at hO
  show joinG [.one .slice] _ _ _ _
  unfold joinG
  show nnG _ _ _ _
  refine nn_ok (callU8_ok (peek_ok (k := 0) B2 hs (by omega)) fun w3 F3 => ?_)
  have B3 := B2.fr F3 (fun h => h)
  have hO3 := own_fr0 hO F3
  have F23 := F2.then F3 fun _ _ h => h.elim
  have hneb := own_ne hO3 B3 (by decide)
  rw [Nat.add_zero]
  cases hrem : (bl s).drop (i + j) with
  | nil =>
   rw [drop_nil_getD hrem]
   exact ite_yes rfl (hkend _ ⟨by rw [hq, hrem]; rfl, ⟨_, B3⟩, F23⟩)
  | cons c r =>
   obtain ⟨hc, hdr, hlt⟩ := drop_cons_getD hrem
   rw [hsl] at hlt
   rw [hc]
   rw [hrem] at hq
   refine ite_ok (fun h32 => hkend _ ⟨?_, ⟨_, B3⟩, F23⟩) fun h32 => ?_
   ·rw [hq]
    exact quotedL_low (by have : ((c.toNat : Nat) : Int) < 32 := of_decide_eq_true h32; omega)
   have h32 : ¬ ((c.toNat : Nat) : Int) < 32 := of_decide_eq_false h32
   rw [u8_lit c 34 (z := 34) rfl]
   by_cases h34 : c = 34
   ·subst h34
    refine ite_yes rfl (nn_ok (B3.ld (o := 1) rfl (nn_ok (B3.st (o := 1) rfl (by simp) fun w4 B4 F4 => back_ok rfl (own_fr hO3 F4 fun k hk e => hneb k hk e.symm) ?_))))
    rw [hq, quotedL_end]
    refine ⟨rfl, ⟨l, ?_, own_one hown (F23.sq F4)⟩, F23.sq F4⟩
    have e2 : IntKind.wrap .i64 (((i + j : Nat) : Int) + 1) = ((i + (j + 1) : Nat) : Int) := by rw [wrap_ok (by omega) (by omega)]; omega
    rw [← e2]
    exact B4
   refine ite_no (beq_eq_false_iff_ne.2 h34) ?_
   rw [u8_lit c 92 (z := 92) rfl]
   by_cases h92 : c = 92
   ·subst h92
    refine ite_yes rfl (nn_ok (callU8_ok (peek_ok (k := 1) B3 hs (by omega)) fun w4 F4 => ?_))
    have B4 := B3.fr F4 (fun h => h)
    have hO4 := own_fr0 hO3 F4
    have F24 := F23.then F4 fun _ _ h => h.elim
    generalize hx : (bl s).getD (i + j + 1) 0 = x
    have hix := Tryz.strings_IndexByte (bs [110, 116, 34, 92]) ((x.toNat : Nat) : Int) w4
    have ex : (((x.toNat : Nat) : Int).toNat.toUInt8) = x := by rw [Int.toNat_natCast]; exact UInt8.ofNat_toNat
    rw [ex] at hix
    refine callI_ok (n := Lib.indexByte [110, 116, 34, 92] x) (Y := fun w' => w' = w4) hix fun w5 hw => ?_
    subst hw
    rcases esc_at x with ⟨he, hk⟩ | ⟨k, hk4, hk, he⟩
    ·rw [hk]
     refine ite_yes rfl (callB_ok (fail_ok B4 60 (i : Int)) fun w6 ⟨B6, F6⟩ => ?_)
     have : quotedL j (92 :: r) out = .error ⟨60, 0⟩ := by
      cases r with
      | nil => rfl
      | cons y r =>
       have : (bl s).getD (i + j + 1) 0 = y := (drop_cons_getD hdr).1
       rw [hx] at this
       subst this
       rw [quotedL_esc, he]
     rw [hq, this]
     exact ⟨rfl, ⟨i + j, l, B6, own_one hown (F24.sq F6)⟩, F24.sq F6⟩
    ·rw [hk]
     have hr : ∃ r', r = x :: r' := by
      cases r with
      | nil =>
       have := drop_nil_getD hdr
       rw [hx] at this
       subst this
       rw [show esc 0 = none from rfl] at he
       cases he
      | cons y r =>
       have : (bl s).getD (i + j + 1) 0 = y := (drop_cons_getD hdr).1
       rw [hx] at this
       subst this
       exact ⟨r, rfl⟩
     obtain ⟨r', rfl⟩ := hr
     have hdr2 := (drop_cons_getD hdr).2.1
     have hlt2 := (drop_cons_getD hdr).2.2
     rw [hsl] at hlt2
     rw [quotedL_esc, he] at hq
     refine ite_no (by simp) (chr_ok (s := bs [10, 9, 34, 92]) (i := k) hk4 ?_)
     have ey : (bl (bs [10, 9, 34, 92]))[k]'(by rw [bl_length]; exact hk4) = [10, 9, 34, 92].getD k 0 := by
      rw [List.getD_eq_getElem?_getD, List.getElem?_eq_getElem (by exact hk4)]
      rfl
     rw [ey]
     simp only [] at hq
     generalize [10, 9, 34, 92].getD k (0 : UInt8) = y at *
     refine new_ok fun w6 m22 hm hs6 B22 F6 => ?_
     have B6 := B4.fr F6 (fun h => h)
     have hO6 := own_fr0 hO4 F6
     have F26 := F24.then F6 fun _ _ h => h.elim
     obtain ⟨ti, z, hti, hz, h1, h2, h3⟩ := rByte
     refine appendB_ok uBytes hti hz h1 h2 (by rw [h3]; rfl) (by omega) (s := l8) hO6 (m := 1) (news := [.int .u8 ((y.toNat : Nat) : Int)]) rfl (B22.held fun j v hj => by rw [Nat.zero_add]; exact hj) (fun u hu => by rw [List.mem_singleton.1 hu]; rfl) (by unfold maxLen; omega) (by omega) (F26.size) fun l23 w7 hO7 F7 => ?_
     have B7 := B6.fr F7 (by omega)
     have F27 := F26.then F7 fun y hy h => by omega
     refine nn_ok (B7.ld (o := 1) rfl (nn_ok (B7.st (o := 1) rfl (by simp) fun w8 B8 F8 => hrec (s.size - (i + (j + 2))) ((l23, ()), ()) w8 (by omega) ⟨j + 2, out ++ [y], rfl, ?_, F27.sq F8, ?_, by omega, by simp; omega, ?_⟩)))
     ·have e2 : IntKind.wrap .i64 (((i + j : Nat) : Int) + 2) = ((i + (j + 2) : Nat) : Int) := by rw [wrap_ok (by omega) (by omega)]; omega
      rw [← e2]
      exact B8
     ·have hneb7 := own_ne hO7 B7 (by decide)
      have := own_fr hO7 F8 fun k hk e => hneb7 k hk e.symm
      simpa [byteCells] using this
     ·rw [hq, ← hdr2]
      rfl
   refine ite_no (beq_eq_false_iff_ne.2 h92) (nn_ok (callS_ok (while_ok B3 hs (by omega) pred_inText) fun w4 ⟨B4, F4⟩ => drew_ok fun w5 F5 z5 => ?_))
   have hin : inText c = true := by unfold inText; rw [decide_eq_true (by omega)]; simp [h34, h92]
   have hTD : (c :: r).takeWhile inText ++ (c :: r).dropWhile inText = c :: r := List.takeWhile_append_dropWhile
   have hTlen : 1 ≤ ((c :: r).takeWhile inText).length := by rw [List.takeWhile_cons, hin]; simp
   have hall : ∀ x ∈ (c :: r).takeWhile inText, 32 ≤ x.toNat ∧ x ≠ 34 ∧ x ≠ 92 := fun x hx => by
    have := List.all_eq_true.1 (List.all_takeWhile (p := inText) (l := c :: r)) x hx
    unfold inText at this
    simpa [and_assoc] using this
   have hstop : ∀ x, ((c :: r).dropWhile inText).head? = some x → x.toNat < 128 := fun x hx => by
    have := List.head?_dropWhile_not inText (c :: r)
    rw [hx] at this
    simp only [inText] at this
    by_cases h1 : x = 34
    ·subst h1; decide
    by_cases h2 : x = 92
    ·subst h2; decide
    have h3 : ¬ 32 ≤ x.toNat := by
     intro h3
     rw [decide_eq_true h3] at this
     simp [h1, h2] at this
    omega
   rw [hrem] at B4 ⊢
   generalize (c :: r).takeWhile inText = T at *
   generalize (c :: r).dropWhile inText = D at *
   have hlen : T.length + D.length = s.size - (i + j) := by
    rw [← List.length_append, hTD, ← hrem, List.length_drop, hsl]
   have B5 := B4.fr F5 (fun h => h)
   have hO5 := own_fr0 (own_fr hO3 F4 fun k hk e => hneb k hk e.symm) F5
   have F25 := (F23.sq F4).then F5 fun _ _ h => h.elim
   refine nn_ok (B5.ld (o := 1) rfl (nn_ok (B5.ld (o := 1) rfl ?_)))
   have eT : IntKind.wrap .i64 (((i + j + T.length : Nat) : Int) - ((bs T).size : Int)) = ((i + j : Nat) : Int) := by rw [bs_size, wrap_ok (by omega) (by omega)]; omega
   rw [eT]
   refine call_ok (whole_ok (i := i + j) (j := i + j + T.length) B5 (hg.fr F25.one).glob hs (by omega) (by omega)) ?_
   intro en w6 hpost
   have etk : ((bl s).drop (i + j)).take (i + j + T.length - (i + j)) = T := by rw [hrem, Nat.add_sub_cancel_left, ← hTD]; simp
   rw [etk] at hpost
   rw [← hTD, quotedL_run T.length T D out j (Nat.le_refl _) hall hstop] at hq
   cases hu : utfBad T with
   | some k =>
    rw [hu] at hpost hq
    obtain ⟨rfl, B6, F6⟩ := hpost
    refine ⟨((false, ()), ()), rfl, ?_⟩
    rw [hq]
    refine ⟨rfl, ⟨i + j + T.length, l, ?_, own_one hown (F25.sq F6)⟩, F25.sq F6⟩
    rw [show i + (j + k) = i + j + k by omega]
    exact B6
   | none =>
    rw [hu] at hpost hq
    obtain ⟨rfl, F6⟩ := hpost
    refine ⟨((true, ()), ()), rfl, ?_⟩
    have B6 := B5.fr F6 (fun h => h)
    have hO6 := own_fr0 hO5 F6
    have F26 := F25.then F6 fun _ _ h => h.elim
    obtain ⟨ti, hti, hz, h1, h2⟩ := rByte'
    have hTs := bs_size T
    refine appendSB_ok uBytes us hti hz h1 h2 (s := l8) hO6 (bs T) (by unfold maxLen; omega) (by omega) (F26.size) fun l35 w7 hO7 F7 => ?_
    have B7 := B6.fr F7 (by omega)
    have F27 := F26.then F7 fun y hy h => by omega
    refine hrec (s.size - (i + (j + T.length))) ((l35, ()), ()) w7 (by omega) ⟨j + T.length, out ++ T, rfl, ?_, F27, ?_, by omega, by rw [List.length_append]; omega, ?_⟩
    ·rw [← Nat.add_assoc]
     exact B7
    ·rw [List.length_append, ← hTs]
     have : byteCells (out ++ T) = byteCells out ++ Go.Lib.strCells (bs T) := by simp [byteCells, Go.Lib.strCells, bs]
     rw [this]
     exact hO7
    ·rw [hq, ← Nat.add_assoc, ← List.drop_drop, hrem, ← hTD]
     simp
 ·rintro w2 ⟨hq, ⟨i', B2⟩, F2⟩
  refine callB_ok (fail_ok B2 60 (i : Int)) fun w3 ⟨B3, F3⟩ => ?_
  rw [hq]
  exact ⟨rfl, ⟨i', l, B3, own_one hown (F2.sq F3)⟩, F2.sq F3⟩
end
end Go.Proofs.YtngfnokbdcjoeaaGreatDoor
end
section
namespace Go.Lex
open Go.Lib
theorem index_tw (c : UInt8) : ∀ s : B, (indexByte s c = -1 ∧ s.takeWhile (· != c) = s) ∨ ∃ i : Nat, indexByte s c = i ∧ i < s.length ∧ s.takeWhile (· != c) = s.take i ∧ s.drop i = c :: s.drop (i + 1)
 | [] => .inl ⟨rfl, rfl⟩
 | b :: l => by
  by_cases h : b = c
  ·subst h
   exact .inr ⟨0, by simp [indexByte], by simp, by simp, rfl⟩
  ·have hb : (b != c) = true := by simpa using h
   rcases index_tw c l with ⟨h1, h2⟩ | ⟨i, h1, h2, h3, h4⟩
   ·refine .inl ⟨by simp [indexByte, h, h1], ?_⟩
    rw [List.takeWhile_cons, hb, if_pos rfl, h2]
   ·refine .inr ⟨i + 1, ?_, by simpa using h2, ?_, ?_⟩
    ·have e : ((i : Int) == -1) = false := by rw [beq_eq_false_iff_ne]; omega
     have hbc : (b == c) = false := by simpa using h
     simp only [indexByte, hbc, h1, e, Bool.false_eq_true, if_false]
     omega
    ·rw [List.takeWhile_cons, hb, if_pos rfl, h3, List.take_succ_cons]
    ·simpa using h4
theorem cut_tw (s : B) (c : UInt8) : cut s [c] = (s.takeWhile (· != c), (s.drop (s.takeWhile (· != c)).length).tail, !(s.drop (s.takeWhile (· != c)).length).isEmpty) := by
 unfold cut
 rw [index_one]
 rcases index_tw c s with ⟨h1, h2⟩ | ⟨i, h1, h2, h3, h4⟩
 ·rw [h1, if_neg (by decide), h2, List.drop_length]
  rfl
 ·rw [h1, if_pos (by omega), h3, List.length_take, Nat.min_eq_left (by omega), h4, Int.toNat_natCast]
  rfl
theorem parts_cut : ∀ s : B, (indexByte s 46 = -1 → parts s = [s]) ∧ ∀ i : Nat, indexByte s 46 = i → parts s = s.take i :: parts (s.drop (i + 1))
 | [] => ⟨fun _ => rfl, fun i h => by simp [indexByte] at h⟩
 | b :: l => by
  obtain ⟨ih1, ih2⟩ := parts_cut l
  by_cases h : b = 46
  ·subst h
   refine ⟨fun e => by simp [indexByte] at e, fun i e => ?_⟩
   have : i = 0 := by simp [indexByte] at e; omega
   subst this
   simp [parts]
  ·have hb : (b == 46) = false := by simpa using h
   have hge := indexByte_ge l 46
   constructor
   ·intro e
    have e1 : indexByte l 46 = -1 := by
     simp only [indexByte, hb, Bool.false_eq_true, if_false] at e
     split at e
     ·rename_i h2; exact beq_iff_eq.1 h2
     ·rename_i h2
      have h2 : ¬ indexByte l 46 = -1 := by simpa using h2
      omega
    unfold parts
    rw [if_neg h, ih1 e1]
   ·intro i e
    simp only [indexByte, hb, Bool.false_eq_true, if_false] at e
    split at e
    ·omega
    ·rename_i h2
     have h2 : ¬ indexByte l 46 = -1 := by simpa using h2
     obtain ⟨k, rfl⟩ : ∃ k, i = k + 1 := ⟨i - 1, by omega⟩
     conv => lhs; unfold parts
     rw [if_neg h, ih2 k (by omega)]
     simp
theorem split_parts : ∀ (n : Nat) (s : B), s.length ≤ n → splitK [46] 0 (count s [46]) s = parts s ∧ count s [46] + 1 = (parts s).length
 | n, s, hn => by
  have hge := index_one s 46
  rcases index_tw 46 s with ⟨h1, _⟩ | ⟨i, h1, h2, _, _⟩
  ·rw [count_miss (by rw [hge, h1]), (parts_cut s).1 h1]
   exact ⟨rfl, rfl⟩
  ·cases n with
   | zero => omega
   | succ n =>
    obtain ⟨ih1, ih2⟩ := split_parts n (s.drop (i + 1)) (by rw [List.length_drop]; omega)
    rw [count_hit (i := i) (by simp) (by rw [hge, h1]), (parts_cut s).2 i h1, Nat.add_comm 1]
    refine ⟨?_, congrArg (· + 1) ih2⟩
    have e : (index s [46] == -1) = false := by rw [hge, h1, beq_eq_false_iff_ne]; omega
    unfold splitK
    rw [e, hge, h1]
    simp only [Bool.false_eq_true, if_false, Int.toNat_natCast, Nat.add_zero]
    rw [← ih1]
    rfl
theorem parts_len : ∀ s : B, (parts s).length ≤ s.length + 1
 | [] => Nat.le_refl _
 | c :: r => by
  have := parts_len r
  unfold parts
  split
  ·simp only [List.length_cons]; omega
  ·split
   ·rename_i h; rw [h] at this; simp only [List.length_cons] at *; omega
   ·simp
theorem parts_each : ∀ {s : B} (x : B), x ∈ parts s → x.length ≤ s.length
 | [], x, h => by simp [parts] at h; simp [h]
 | c :: r, x, h => by
  have ih := fun y => parts_each (s := r) y
  unfold parts at h
  split at h
  ·rcases List.mem_cons.1 h with rfl | h
   ·simp
   ·have := ih x h; simp only [List.length_cons]; omega
  ·split at h
   ·rename_i p ps hp
    rcases List.mem_cons.1 h with rfl | h
    ·have := ih p (by rw [hp]; simp); simp only [List.length_cons]; omega
    ·have := ih x (by rw [hp]; simp [h]); simp only [List.length_cons]; omega
   ·simp only [List.mem_singleton] at h; subst h; simp
theorem decFrom_digits : ∀ (l : B) (acc : Nat), l.all digit = true → ∃ v, decFrom acc l = some v ∧ v + 1 ≤ (acc + 1) * 10 ^ l.length
 | [], acc, _ => ⟨acc, rfl, by simp⟩
 | b :: l, acc, h => by
  simp only [List.all_cons, Bool.and_eq_true] at h
  have hb := of_decide_eq_true h.1
  obtain ⟨v, h1, h2⟩ := decFrom_digits l (acc * 10 + (b.toNat - 48)) h.2
  refine ⟨v, by unfold decFrom digitVal; rw [if_pos hb]; exact h1, Nat.le_trans h2 ?_⟩
  rw [List.length_cons, Nat.pow_succ, Nat.mul_comm (10 ^ l.length) 10, ← Nat.mul_assoc]
  exact Nat.mul_le_mul_right _ (by omega)
theorem atoi_digits {l : B} (h : digits l = true) (h6 : l.length ≤ 6) : ∃ v : Nat, atoi l = some (v : Int) ∧ v ≤ 999999 := by
 unfold digits at h
 cases l with
 | nil => simp at h
 | cons b r =>
  simp only [List.isEmpty_cons, Bool.not_false, Bool.true_and] at h
  obtain ⟨v, h1, h2⟩ := decFrom_digits (b :: r) 0 h
  have hb : digit b = true := by simp only [List.all_cons, Bool.and_eq_true] at h; exact h.1
  have hd := of_decide_eq_true hb
  have n45 : (b == 45) = false := by rw [beq_eq_false_iff_ne]; rintro rfl; revert hd; decide
  have n43 : (b == 43) = false := by rw [beq_eq_false_iff_ne]; rintro rfl; revert hd; decide
  refine ⟨v, ?_, ?_⟩
  ·unfold atoi
   simp only [n45, n43, Bool.false_eq_true, if_false, decNat, List.isEmpty_cons]
   rw [h1]
   rfl
  ·have : 10 ^ (b :: r).length ≤ 10 ^ 6 := Nat.pow_le_pow_right (by omega) h6
   omega
def preAll (p : B) : Bool := p.isEmpty || (decide (p.length ≤ 24) && (parts p).all preOk)
theorem verOk_eq (s : B) : verOk s = (decide ((parts (s.takeWhile (· != 45))).length = 3) && (parts (s.takeWhile (· != 45))).all numOk && ((s.drop (s.takeWhile (· != 45)).length).isEmpty || !(s.drop (s.takeWhile (· != 45)).length).tail.isEmpty) && preAll (s.drop (s.takeWhile (· != 45)).length).tail) := by
 unfold verOk preAll
 simp only []
 generalize s.takeWhile (· != 45) = core
 cases s.drop core.length with
 | nil => simp
 | cons d pre => cases pre <;> simp [Bool.and_assoc]
end Go.Lex
end
section
namespace Go.Proofs.YtngfnokbdcjoeaaGreatDoor
open Go.Lift Go.Lex
section
variable {w : World}
theorem callSl_ok {R : Ending → World → Prop} {P : Program} {f : FuncId} {args : Array Value} {Y : Sl → World → Prop} (hc : Calls P f args w fun e w' => ∃ l : Sl, e = .returned (.slice l.a l.n l.c) ∧ Y l w') {k : Sl → G} (h : ∀ l w', Y l w' → k l R w') : callG P f args [.one .slice] k R w :=
 call_ok hc fun _ w' ⟨l, he, hy⟩ => ⟨((l, ()), ()), he, h l w' hy⟩
theorem split_ok (s : ByteArray) (hs : s.size < 4294967281) (hg : Glob w) : Calls Tryz.prog 211 #[.string s, .string (bs [46])] w fun e w' =>
  ∃ l : Sl, e = .returned (.slice l.a l.n l.c) ∧ RdS w' l ((parts (bl s)).map bs) ∧ Fr noB w w' := by
 obtain ⟨m, hm⟩ := hg.len
 have h := Tryz.strings_Split s (bs [46]) m w hs hm (by decide)
 refine h.mono fun e w' ⟨he, hw⟩ => ⟨⟨_, _, _⟩, he, ?_, hw ▸ fr_alloc w _⟩
 subst hw
 have hp := split_parts (bl s).length (bl s) (Nat.le_refl _)
 have hd := Lib.splitB_data (bs [46]) 0 (Lib.countB s (bs [46])) s
 have e2 : Lib.countB s (bs [46]) = Lib.count (bl s) [46] := rfl
 have e1 : Lib.splitB (bs [46]) 0 (Lib.countB s (bs [46])) s = (parts (bl s)).map bs := by
  have hd' : (Lib.splitB (bs [46]) 0 (Lib.countB s (bs [46])) s).map bl = parts (bl s) := hd.trans hp.1
  rw [← hd', List.map_map]
  conv => lhs; rw [← List.map_id (Lib.splitB (bs [46]) 0 (Lib.countB s (bs [46])) s)]
  exact List.map_congr_left fun x _ => (bs_bl x).symm
 rw [e1, e2]
 have B : Blk (w.alloc (.cells (((parts (bl s)).map bs).map Value.string).toArray 9 (0, 0))) w.heap.size 9 (((parts (bl s)).map bs).map Value.string) := blk_alloc w _ _
 have := RdS.of_blk B (Lib.count (bl s) [46] + 1)
 rw [List.length_map, ← hp.2] at this
 exact this
theorem cut_ok (s : ByteArray) (hs : s.size < 4294967281) (hg : Glob w) : Calls Tryz.prog 210 #[.string s, .string (bs [45])] w fun e w' =>
  e = .returned (.tuple #[.string (bs ((bl s).takeWhile (· != 45))), .string (bs ((bl s).drop ((bl s).takeWhile (· != 45)).length).tail), .bool (!((bl s).drop ((bl s).takeWhile (· != 45)).length).isEmpty)]) ∧ Fr noB w w' := by
 obtain ⟨m, hm⟩ := hg.len
 have h := Tryz.strings_Cut s (bs [45]) m w hs hm
 refine h.mono fun e w' ⟨he, n, hw⟩ => ⟨?_, hw ▸ fr_drewN w n⟩
 rw [he]
 have : Lib.cut s.data.toList (bs [45]).data.toList = _ := cut_tw (bl s) 45
 rw [this]
 rfl
theorem part_ok (s : ByteArray) (hs : s.size ≤ 1000000) : AnsB 236 #[.string s] w (preOk (bl s)) := by
 have hsl := bl_length s
 apply c236
 unfold t236 wrZ tvZ caBZ jn0Z jnBZ lpIZ
 refine join1_ok (c := .bool) (fun (b : Bool) w' => b = !(!(bl s).isEmpty && (!digits (bl s) || bl s == [48] || (bl s).head? != some 48)) ∧ Fr noB w w') (fun k hk => ?_) ?_
 ·rw [eq_bl, bl_empty, eq_bl]
  rcases bl_cases s with hb | ⟨x, l, hb⟩
  ·rw [hb] at hk ⊢
   exact ite_yes rfl (hk _ _ ⟨rfl, Fr.refl _ _⟩)
  ·have h0 : 0 < s.size := by rw [← hsl, hb]; simp
   have e0 : (bl s)[0]'(by rw [hsl]; exact h0) = x := by simp [hb]
   refine ite_no (by rw [hb]; rfl) (callB_ok (digits_ok s (by omega)) fun w1 F1 => ite_ok (fun h => chr_ok (i := 0) h0 ?_) fun h => hk _ _ ⟨by rw [h, hb]; rfl, F1⟩)
   rw [e0, u8_lit x 48 (z := 48) rfl]
   have hl : bl ({ data := #[(48 : UInt8)] } : ByteArray) = [48] := rfl
   rw [hl]
   refine ite_ok (fun h2 => hk _ _ ⟨?_, F1⟩) fun h2 => hk _ _ ⟨?_, F1⟩
   ·have h2 : x = 48 := by simpa using h2
    subst h2
    rw [h, hb]
    cases hc : ((48 : UInt8) :: l == [48]) <;> simp
   ·have h2 : ¬ x = 48 := by simpa using h2
    rw [h, hb]
    simp [h2]
 rintro b w1 ⟨rfl, F1⟩
 have hpre : preOk (bl s) = (!(bl s).isEmpty && (!digits (bl s) || bl s == [48] || (bl s).head? != some 48) && (bl s).all alnum) := by
  unfold preOk
  cases (bl s).isEmpty <;> cases (bl s).all alnum <;> simp
 refine ite_ok (fun h => ⟨?_, F1⟩) fun h => ?_
 ·rw [hpre]
  have h : (!(bl s).isEmpty && (!digits (bl s) || bl s == [48] || (bl s).head? != some 48)) = false := by rwa [Bool.not_eq_true'] at h
  rw [h]
  rfl
 have h : (!(bl s).isEmpty && (!digits (bl s) || bl s == [48] || (bl s).head? != some 48)) = true := by rwa [Bool.not_eq_false'] at h
 rw [hpre, h, Bool.true_and]
 refine join0_ok (fun w' => (bl s).all alnum = true ∧ Fr noB w w') (fun kend hkend => ?_) (fun w' h => ⟨by rw [h.1], h.2⟩)
 refine count_ok s.size (by omega) (fun k w' => (∀ i x, i < k → (bl s)[i]? = some x → alnum x = true) ∧ Fr noB w w') (fun rec k w2 hk hI hrec => ?_) ⟨fun i x h => by omega, F1⟩
 obtain ⟨hall, F2⟩ := hI
 refine ite_ok (fun hlt => ?_) fun hge => hkend _ ⟨?_, F2⟩
 ·have hlt : k < s.size := by have : (k : Int) < (s.size : Int) := of_decide_eq_true hlt
                              omega
  have hx := bl_at hlt
  refine join_in (chr_ok hlt ?_)
  generalize (bl s)[k]'(by rw [hsl]; exact hlt) = x at *
  rw [u8_lit x 45 (z := 45) rfl]
  have hx1 := hx
  refine join1_ok (c := .bool) (fun (b : Bool) w' => b = !alnum x ∧ w' = w2) (fun k hk => ?_) ?_
  ·have hal : alnum x = (decide ((48 : Int) ≤ (x.toNat : Int) ∧ (x.toNat : Int) ≤ 57) || decide ((97 : Int) ≤ (x.toNat : Int) ∧ (x.toNat : Int) ≤ 122) || decide ((65 : Int) ≤ (x.toNat : Int) ∧ (x.toNat : Int) ≤ 90) || x == 45) := by
    unfold alnum
    rw [digit_dec, small_dec, great_dec]
   rw [hal] at hk
   generalize (x.toNat : Int) = z at *
   generalize (x == 45) = y at *
   repeat' first | exact hk _ _ ⟨by simp only [decide_eq_true_eq, decide_eq_false_iff_not] at *; cases y <;> simp <;> omega, rfl⟩ | refine ite_ok (fun _ => ?_) (fun _ => ?_)
  rintro b w' ⟨rfl, rfl⟩
  refine ite_ok (fun h => ⟨?_, F2⟩) fun h => hrec hlt _ ⟨fun i y hi hy => ?_, F2⟩
  ·have h : alnum x = false := by simpa using h
   have : (bl s).all alnum = false := by
    rw [Bool.eq_false_iff]
    intro e
    have := List.all_eq_true.1 e x (List.mem_of_getElem? hx)
    rw [h] at this
    cases this
   rw [this]
  ·rcases Nat.lt_succ_iff_lt_or_eq.1 hi with hi | rfl
   ·exact hall i y hi hy
   ·rw [hx] at hy
    cases hy
    simpa using h
 ·have hge : ¬ (k : Int) < (s.size : Int) := of_decide_eq_false hge
  rw [List.all_eq_true]
  intro x hx
  obtain ⟨i, hi⟩ := List.mem_iff_getElem?.1 hx
  exact hall i x (by have := (List.getElem?_eq_some_iff.1 hi).1; omega) hi
theorem Check_ok {n0 n1 n2 : Int} (h0 : 0 ≤ n0 ∧ n0 ≤ 999999) (h1 : 0 ≤ n1 ∧ n1 ≤ 999999) (h2 : 0 ≤ n2 ∧ n2 ≤ 999999) (p : ByteArray) (hp : p.size ≤ 1000000) (hg : Glob w) :
  Calls Tryz.prog 214 #[.agg #[.int .i64 n0, .int .i64 n1, .int .i64 n2, .string p]] w fun e w' => e = .returned (.int .i64 (if preAll (bl p) then 0 else 40)) ∧ Fr noB w w' := by
 have hpl := bl_length p
 apply c214
 unfold t214 wrZ ivZ tvZ ldIZ ldSZ nwZ caBZ caLZ jn0Z jnBZ lpIZ ixZ
 refine new_ok fun w1 m4 hm4 hs1 B1 F1 => ?_
 refine B1.ld (o := 0) rfl (B1.ld (o := 1) rfl (B1.ld (o := 2) rfl (new_ok fun w2 m8 hm8 hs2 B8 F2 => ?_)))
 have B2 := B1.fr F2 (fun h => h)
 refine join0_ok (fun w' => w' = w2) (fun kend hkend => ?_) ?_
 ·refine count_ok 3 (by omega) (fun k w' => w' = w2) (fun rec k w3 hk hI hrec => ?_) rfl
  subst hI
  refine ite_ok (fun hlt => ?_) fun hge => hkend _ rfl
  have hlt : k < 3 := by have : (k : Int) < ((3 : Nat) : Int) := of_decide_eq_true hlt
                         omega
  obtain ⟨z, hz, hz0, hz1⟩ : ∃ z : Int, ([.int .i64 n0, .int .i64 n1, .int .i64 n2] : List Value)[k]? = some (.int .i64 z) ∧ 0 ≤ z ∧ z ≤ 999999 := by
   match k, hlt with
   | 0, _ => exact ⟨n0, rfl, h0.1, h0.2⟩
   | 1, _ => exact ⟨n1, rfl, h1.1, h1.2⟩
   | 2, _ => exact ⟨n2, rfl, h2.1, h2.2⟩
  refine join_in (idxB_ok hlt (B8.ld (c := .int .i64) (x := z) (by rw [Nat.zero_add, Nat.mul_one]; exact hz) ?_))
  refine join1_ok (c := .bool) (fun (b : Bool) w' => b = false ∧ w' = w3) (fun k hk => ite_ok (fun h => ?_) fun h => hk _ _ ⟨decide_eq_false (by omega), rfl⟩) ?_
  ·have h : z < 0 := of_decide_eq_true h
   omega
  rintro b w' ⟨rfl, rfl⟩
  exact ite_no rfl (hrec hlt _ rfl)
 rintro w3 rfl
 have F12 := F1.tr F2
 refine B2.ld (o := 3) rfl (ite_ok (fun h => ⟨?_, F12⟩) fun h => B2.ld (o := 3) rfl ?_)
 ·have h : (p.size : Int) > 24 := of_decide_eq_true h
  have : preAll (bl p) = false := by
   unfold preAll
   rw [decide_eq_false (by omega)]
   cases hb : bl p with
   | nil => rw [hb] at hpl; simp at hpl; omega
   | cons c r => rfl
  rw [this]
  rfl
 have h : ¬ (p.size : Int) > 24 := of_decide_eq_false h
 refine join0_ok (fun w' => preAll (bl p) = true ∧ Fr noB w w') (fun kend hkend => ?_) ?_
 ·rw [eq_bl, bl_empty]
  rcases bl_cases p with hb | ⟨x, l, hb⟩
  ·exact ite_no (by rw [hb]; rfl) (hkend _ ⟨by rw [hb]; rfl, F12⟩)
  refine ite_yes (by rw [hb]; rfl) (B2.ld (o := 3) rfl (callSl_ok (split_ok p (by omega) (hg.fr F12)) fun l21 w4 ⟨hR, F4⟩ => ?_))
  have hall : preAll (bl p) = (parts (bl p)).all preOk := by
   unfold preAll
   rw [decide_eq_true (by omega), hb]
   rfl
  have hn := hR.1
  rw [List.length_map] at hn
  have hpl2 := parts_len (bl p)
  refine join0_ok (fun w' => (parts (bl p)).all preOk = true ∧ Fr noB w w') (fun kend2 hkend2 => ?_) (fun w' ⟨h1, h2⟩ => hkend _ ⟨by rw [hall, h1], h2⟩)
  refine count_ok l21.n (by omega) (fun k w' => (∀ i x, i < k → (parts (bl p))[i]? = some x → preOk x = true) ∧ Fr noB w4 w') (fun rec k w5 hk hI hrec => ?_) ⟨fun i x h => by omega, Fr.refl _ _⟩
  obtain ⟨hpre, F5⟩ := hI
  refine ite_ok (fun hlt => ?_) fun hge => hkend2 _ ⟨?_, (F12.tr F4).tr F5⟩
  ·have hlt : k < l21.n := by have : (k : Int) < (l21.n : Int) := of_decide_eq_true hlt
                              omega
   obtain ⟨x, a, hx, ha, hc, hidx⟩ := hR.at (k := k) (by rw [List.length_map]; omega)
   rw [List.getElem?_map, Option.map_eq_some_iff] at hx
   obtain ⟨y, hy, rfl⟩ := hx
   rw [ha]
   have hyl : y.length ≤ (bl p).length := parts_each y (List.mem_of_getElem? hy)
   refine join_in (hidx (ld_ok (c := .str) (hc _ F5) (callB_ok (part_ok (bs y) (by rw [bs_size]; omega)) fun w6 F6 => ?_)))
   rw [bl_bs]
   refine ite_ok (fun h => ⟨?_, ((F12.tr F4).tr F5).tr F6⟩) fun h => hrec hlt _ ⟨fun i z hi hz => ?_, F5.tr F6⟩
   ·have h : preOk y = false := by simpa using h
    have : (parts (bl p)).all preOk = false := by
     rw [Bool.eq_false_iff]
     intro e
     have := List.all_eq_true.1 e y (List.mem_of_getElem? hy)
     rw [h] at this
     cases this
    rw [hall, this]
    rfl
   ·rcases Nat.lt_succ_iff_lt_or_eq.1 hi with hi | rfl
    ·exact hpre i z hi hz
    ·rw [hy] at hz
     cases hz
     simpa using h
  ·have hge : ¬ (k : Int) < (l21.n : Int) := of_decide_eq_false hge
   rw [List.all_eq_true]
   intro x hx
   obtain ⟨i, hi⟩ := List.mem_iff_getElem?.1 hx
   exact hpre i x (by have := (List.getElem?_eq_some_iff.1 hi).1; omega) hi
 rintro w4 ⟨hp1, F4⟩
 rw [hp1]
 exact ⟨rfl, F4⟩
end
end Go.Proofs.YtngfnokbdcjoeaaGreatDoor
end
