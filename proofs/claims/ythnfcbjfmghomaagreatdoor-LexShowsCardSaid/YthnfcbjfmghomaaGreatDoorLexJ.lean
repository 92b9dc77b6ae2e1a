/- A token read: the walk. No condition. -/
import Derived.Test.YthnfcbjfmghomaaGreatDoorLexI
namespace Go.Proofs.YthnfcbjfmghomaaGreatDoor
open Go.Lift Go.Lex
section
variable {w : World} {b : Nat} {s : ByteArray} {i : Nat}
set_option maxHeartbeats 4000000 in
theorem token_ok {acc : List Tok} {e a : Int} (h : St w b s i acc e a) (hg : GlobB b w) (hs : s.size ≤ 1000000) (hi : i < s.size) (hacc : acc.length ≤ 1000000) :
    Calls Tryz.prog 36 #[.pointer (some ⟨b, 0, none⟩)] w (TokP w b s i acc e a) := by
  have hsl := bl_length s
  apply c36
  unfold t36
  obtain ⟨l0, B0, hown0⟩ := h
  have hbw := B0.lt
  obtain ⟨c, r, hrem⟩ : ∃ c r, (bl s).drop i = c :: r := by
    cases hd : (bl s).drop i with
    | nil => have := List.drop_eq_nil_iff.1 hd; omega
    | cons c r => exact ⟨c, r, rfl⟩
  obtain ⟨hc, hdr, _⟩ := drop_cons_getD hrem
  have hrl : (c :: r).length = s.size - i := by rw [← hrem, List.length_drop, hsl]
  refine new_ok fun w1 m1 hm1 hs1 M1 F1 => drew_ok fun w2 F2 z2 => ?_
  have M2 := M1.fr F2 (fun h => h)
  have F02 := F1.tr F2
  have B2 := B0.fr F02 (fun h => h)
  refine M2.ld (o := 0) rfl (nn_ok (B2.ld (o := 1) rfl (M2.ld (o := 0) rfl (nn_ok ?_))))
  have peek : ∀ {w' : World}, Fr noB w2 w' → Calls Tryz.prog 32 #[.pointer (some ⟨b, 0, none⟩), .int .i64 ((0 : Nat) : Int)] w' fun e w'' => e = .returned (.int .u8 ((c.toNat : Nat) : Int)) ∧ Fr noB w' w'' := fun F => by
    have := peek_ok (k := 0) (B2.fr F (fun h => h)) hs (by omega)
    rw [Nat.add_zero, hc] at this
    exact this
  have held : ∀ {w' : World}, Fr noB w2 w' → Held w' (⟨m1, 0, none⟩, [.pointer (some ⟨b, 0, none⟩)]) ∧ Held w' (⟨b, 1, none⟩, [.int .i64 (i : Int)]) := fun F => ⟨(M2.fr F (fun h => h)).held1 rfl, (B2.fr F (fun h => h)).held1 rfl⟩
  have start : ∀ {w' : World} {m8 : Nat}, m8 ≠ b → Fr noB w2 w' → Blk w' m8 3 [.int .i64 (i : Int)] → At w w' b m1 m8 s i i acc e a := fun hm F B8 =>
    ⟨⟨l0, B2.fr F (fun h => h), own_fr0 hown0 (F02.tr F)⟩, M2.fr F (fun h => h), B8, by omega, hm, (F02.tr F).up b⟩
  refine both_ok ?ga ?gb
  case' ga =>
    refine callU8_ok (peek (Fr.refl _ _)) fun w3 F3 => ?_
    have H3 := held F3
    refine keep_cons H3.1 (keep_cons H3.2 (keep_cons H3.1 (keep_nil (new_ok fun w4 m8 hm8 hs4 B8 F4 => ?_))))
    have H4 := held (F3.tr F4)
    have := F3.size
    have := F02.size
    refine keep_cons H4.1 (keep_cons H4.2 (keep_cons H4.1 (keep_nil (B8.st (o := 0) rfl (by simp) fun w5 B85 F5 => ?_))))
    have F25 : Fr noB w2 w5 := (F3.tr F4).then F5 fun y hy h => by unfold oneB at h; omega
    refine keep_cons (held F25).1 (keep_nil ?_)
    have A5 := start (by omega) F25 B85
  case' gb =>
    refine new_ok fun w3 m8 hm8 hs3 B8 F3 => ?_
    have H3 := held F3
    have := F02.size
    refine keep_cons H3.1 (keep_cons H3.2 (keep_cons H3.1 (keep_nil (callU8_ok (peek F3) fun w4 F4 => ?_))))
    have H4 := held (F3.tr F4)
    refine keep_cons H4.1 (keep_cons H4.2 (keep_cons H4.1 (keep_nil ((B8.fr F4 (fun h => h)).st (o := 0) rfl (by simp) fun w5 B85 F5 => ?_))))
    have F25 : Fr noB w2 w5 := (F3.tr F4).then F5 fun y hy h => by unfold oneB at h; omega
    refine keep_cons (held F25).1 (keep_nil ?_)
    have A5 := start (by omega) F25 B85
  all_goals
    clear held peek start
    refine join0_ok (fun w' => (small c || great c) = false ∧ digit c = false ∧ c ≠ 34 ∧ At w w' b m1 m8 s i i acc e a) (fun k9 hk9 => ?_) ?_
    · refine join1_ok (c := .bool) (fun (x : Bool) w' => x = (small c || great c) ∧ At w w' b m1 m8 s i i acc e a) (fun k10 hk10 => ?_) ?_
      · exact callB_ok (small_ok c) fun w6 F6 => ite_ok (fun h => hk10 _ _ ⟨by rw [h]; rfl, A5.go F6⟩) fun h => callB_ok (great_ok c) fun w7 F7 => hk10 _ _ ⟨by rw [h]; rfl, (A5.go F6).go F7⟩
      rintro x w6 ⟨rfl, A6⟩
      refine ite_ok (fun halpha => ?_) fun halpha => ?_
      · obtain ⟨l, B, hown⟩ := A6.st
        refine A6.b1.ld (o := 0) rfl (nn_ok (callS_ok (while_ok B hs (by omega) pred_rest) fun w7 ⟨B7, F7⟩ => ?_))
        have A7 := A6.set ⟨l, B7, own_one hown F7⟩ F7
        have hf := first_word (r := r) halpha
        have hTl := ((c :: r).takeWhile_sublist rest).length_le
        rw [hrem] at A7 ⊢
        generalize (c :: r).takeWhile rest = T at *
        have hTs : (bs T).size < 4611686018427387904 := by rw [bs_size]; omega
        refine join0_ok (fun w' => first (c :: r) = .error ⟨60, 0⟩ ∧ At w w' b m1 m8 s i (i + T.length) acc e a) (fun k17 hk17 => ?_) (fun w' ⟨hf, A⟩ => fail_ret A (by rw [hrem, hf]))
        refine callB_ok (Word_ok (bs T)) fun w8 F8 => ?_
        rw [bl_bs]
        refine ite_ok (fun hw => add_ret (A7.go F8) (k := 5) (n := T.length) (by rw [hrem, hf, if_pos hw, bl_bs]) rfl hacc) fun hw => callB_ok (Name_ok (bs T) hTs) fun w9 F9 => ?_
        rw [bl_bs]
        rw [hw, if_neg (by decide)] at hf
        refine ite_ok (fun hw => add_ret ((A7.go F8).go F9) (k := 1) (n := T.length) (by rw [hrem, hf, if_pos hw, bl_bs]) rfl hacc) fun hw => callB_ok (Upper_ok (bs T) hTs) fun w10 F10 => ?_
        rw [bl_bs]
        rw [hw, if_neg (by decide)] at hf
        refine ite_ok (fun hw => add_ret (((A7.go F8).go F9).go F10) (k := 2) (n := T.length) (by rw [hrem, hf, if_pos hw, bl_bs]) rfl hacc) fun hw => hk17 _ ⟨?_, ((A7.go F8).go F9).go F10⟩
        rw [hf, hw, if_neg (by decide)]
      · refine callB_ok (digit_ok c) fun w7 F7 => ite_ok (fun hdig => ?_) fun hdig => ?_
        · have A7 := A6.go F7
          obtain ⟨l, B, hown⟩ := A7.st
          refine A7.b1.ld (o := 0) rfl (nn_ok (callS_ok (while_ok B hs (by omega) pred_lump) fun w8 ⟨B8', F8⟩ => ?_))
          have A8 := A7.set ⟨l, B8', own_one hown F8⟩ F8
          have hf := first_num (r := r) halpha hdig
          have hTl := ((c :: r).takeWhile_sublist lump).length_le
          have hlump : lump c = true := by unfold lump; rw [hdig]; simp
          have hT0 : (c :: r).takeWhile lump = c :: r.takeWhile lump := by rw [List.takeWhile_cons, hlump]; rfl
          rw [hrem] at A8 ⊢
          generalize (c :: r).takeWhile lump = T at *
          have hTs : (bs T).size = T.length := bs_size T
          refine join1_ok (c := .bool) (fun (x : Bool) w' => x = number T ∧ At w w' b m1 m8 s i (i + T.length) acc e a) (fun k31 hk31 => ?_) ?_
          · refine callS_ok (trim_ok (bs T) (by omega)) fun w9 F9 => ?_
            have hz : (((bs (Lib.trimS (bl (bs T)) ten)).size : Int) == 0) = T.all digit := by
              rw [bl_bs, ← ten_all, Bool.eq_iff_iff, ← trimS_nil, beq_iff_eq, bs_size, ← List.length_eq_zero_iff]
              omega
            have hnum : number T = (T.all digit && decide (T.length ≤ 15) && (T == [48] || T.head? != some 48)) := rfl
            rw [hz]
            refine ite_ok (fun hd => ite_ok (fun h15 => ?_) fun h15 => hk31 _ _ ⟨?_, A8.go F9⟩) fun hd => hk31 _ _ ⟨by rw [hnum, hd]; rfl, A8.go F9⟩
            · have h15 : ((bs T).size : Int) ≤ 15 := of_decide_eq_true h15
              have hnum : number T = (T == [48] || T.head? != some 48) := by rw [hnum, hd, decide_eq_true (p := T.length ≤ 15) (by omega)]; rfl
              rw [eq_bl, bl_bs]
              refine ite_ok (fun h48 => hk31 _ _ ⟨?_, A8.go F9⟩) fun h48 => ?_
              · have h48 : (T == [48]) = true := h48
                rw [hnum, h48]
                rfl
              · have h48 : (T == [48]) = false := h48
                refine chr_ok (i := 0) (by rw [hTs, hT0]; simp) (hk31 _ _ ⟨?_, A8.go F9⟩)
                rw [hnum, h48, Bool.false_or]
                have e0 : (bl (bs T))[0]'(by rw [bl_length, hTs, hT0]; simp) = c := by simp [bl_bs, hT0]
                rw [e0, hT0, List.head?_cons]
                have := u8_lit c 48 (z := 48) rfl
                rw [bne, this, Bool.eq_iff_iff]
                simp
            · have h15 : ¬ ((bs T).size : Int) ≤ 15 := of_decide_eq_false h15
              rw [hnum, hd, decide_eq_false (p := T.length ≤ 15) (by omega)]
              rfl
          rintro x w9 ⟨rfl, A9⟩
          refine ite_ok (fun hn => add_ret A9 (k := 3) (n := T.length) (by rw [hrem, hf, if_pos hn, bl_bs]) rfl hacc) fun hn => ?_
          rw [hn, if_neg (by decide)] at hf
          refine callVer_ok (Parse_ok (bs T) (by omega) (hg.fr A9.fr).glob) fun x0 x1 x2 p w10 F10 => ?_
          rw [bl_bs]
          refine new_ok fun w11 m41 hm41 hs11 B41 F11 => ?_
          refine B41.st (o := 0) (v := .int .i64 x0) rfl (by simp) fun w12 B42 F12 => B42.st (o := 1) (v := .int .i64 x1) rfl (by simp) fun w13 B43 F13 => B43.st (o := 2) (v := .int .i64 x2) rfl (by simp) fun w14 B44 F14 => B44.st (o := 3) (v := .string p) rfl (by simp) fun w15 B45 F15 => ?_
          have A15 := A9.go ((F10.tr F11).then (((F12.sq F13).sq F14).sq F15) fun y hy h => by have := F10.size; unfold oneB at h; omega)
          rcases Bool.eq_false_or_eq_true (verOk T) with hv | hv
          · rw [hv, if_pos rfl] at hf
            exact ite_yes (by rw [hv]; rfl) (add_ret A15 (k := 7) (n := T.length) (by rw [hrem, hf, bl_bs]) rfl hacc)
          · rw [hv, if_neg (by decide)] at hf
            exact ite_no (by rw [hv]; rfl) (fail_ret A15 (by rw [hrem, hf]))
        · have A7 := A6.go F7
          rw [u8_lit c 34 (z := 34) rfl]
          by_cases h34 : c = 34
          · subst h34
            refine ite_yes rfl (A7.b1.ld (o := 0) rfl (call_ok (quoted_ok A7.st (hg.fr A7.fr) hs hi) ?_))
            intro en w8 hp
            rw [hdr] at hp
            have hft := first_text (r := r)
            cases hq : quotedL 1 r [] with
            | ok tn =>
              obtain ⟨T, n⟩ := tn
              rw [hq] at hp hft
              obtain ⟨rfl, hS, hF⟩ := hp
              refine ⟨((bs T, ()), (true, ()), ()), rfl, ?_⟩
              exact add_ret (A7.set hS hF) (k := 4) (n := n) (by rw [hrem, hft, bl_bs]) rfl hacc
            | error f =>
              rw [hq] at hp hft
              obtain ⟨rfl, ⟨i', hS⟩, hF⟩ := hp
              refine ⟨((⟨#[]⟩, ()), (false, ()), ()), rfl, ?_⟩
              show TokP w b s i acc e a _ _
              unfold TokP
              rw [hrem, hft]
              exact ⟨rfl, ⟨i', hS⟩, (A7.set hS hF).fr⟩
          · exact ite_no (beq_eq_false_iff_ne.2 h34) (hk9 _ ⟨halpha, hdig, h34, A7⟩)
    rintro w6 ⟨halpha, hdig, h34, A6⟩
    have hf := first_sign (r := r) halpha hdig h34
    refine join0_ok (fun w' => first (c :: r) = .error ⟨60, 0⟩ ∧ At w w' b m1 m8 s i i acc e a) (fun kend hkend => ?_) (fun w' ⟨hf, A⟩ => fail_ret A (by rw [hrem, hf]))
    refine loop1_ok (c := .int .i64) (fun (n : Int) w' => ∃ k : Nat, n = (k : Int) ∧ k ≤ 2 ∧ At w w' b m1 m8 s i i acc e a ∧ first (c :: r) = (if 2 ≤ k ∧ 2 ≤ (c :: r).length ∧ isSign ((c :: r).take 2) = true then .ok (6, (c :: r).take 2, 2) else if 1 ≤ k ∧ isSign ((c :: r).take 1) = true then .ok (6, (c :: r).take 1, 1) else .error ⟨60, 0⟩))
      (fun (n : Int) => n.toNat) ?_ ⟨2, rfl, Nat.le_refl _, A6, by rw [hf]; simp only [Nat.le_refl, true_and, Nat.reduceLeDiff]⟩
    rintro rec n w7 ⟨k, rfl, hk, A7, hfk⟩ hrec
    refine ite_ok (fun hpos => ?_) fun hpos => hkend _ ⟨?_, A7⟩
    · have hpos : (k : Int) > 0 := of_decide_eq_true hpos
      refine join_in ?_
      refine join1_ok (c := .bool) (fun (x : Bool) w' => x = (decide (k ≤ (c :: r).length) && isSign ((c :: r).take k)) ∧ At w w' b m1 m8 s i i acc e a) (fun k56 hk56 => ?_) ?_
      · refine drew_ok fun w8 F8' z8 => ?_
        have A8 := A7.go F8'
        obtain ⟨l, B, hown⟩ := A8.st
        refine A8.b8.ld (o := 0) rfl (A8.b1.ld (o := 0) rfl (nn_ok (B.ld (o := 0) rfl ?_)))
        have ew : IntKind.wrap .i64 ((i : Int) + (k : Int)) = ((i + k : Nat) : Int) := by rw [wrap_ok (by omega) (by omega)]; omega
        rw [ew]
        refine ite_ok (fun hle => ?_) fun hle => hk56 _ _ ⟨?_, A8⟩
        · have hle : ((i + k : Nat) : Int) ≤ (s.size : Int) := of_decide_eq_true hle
          refine A8.b1.ld (o := 0) rfl (nn_ok (B.ld (o := 0) rfl (A8.b8.ld (o := 0) rfl (A8.b8.ld (o := 0) rfl ?_))))
          rw [ew]
          refine sub_ok (s := s) (l := (i : Int)) (h' := ((i + k : Nat) : Int)) (by omega) (by omega) (by omega) ?_
          have e8 : bl (s.extract ((i : Int)).toNat (((i + k : Nat) : Int)).toNat) = (c :: r).take k := by
            rw [bl_extract, Int.toNat_natCast, Int.toNat_natCast, Nat.add_sub_cancel_left, hrem]
          refine callB_ok (Sign_ok _) fun w9 F9 => ?_
          rw [e8]
          have A9 := A8.go F9
          have B9 := B.fr F9 (fun h => h)
          refine keep_cons (A9.b8.held1 rfl) (keep_cons (A9.b1.held1 rfl) (keep_cons (B9.held1 rfl) (keep_cons (A9.b1.held1 rfl) (keep_cons (A9.b8.held1 rfl) (keep_nil (hk56 _ _ ⟨?_, A9⟩))))))
          rw [decide_eq_true (by omega), Bool.true_and]
        · have hle : ¬ ((i + k : Nat) : Int) ≤ (s.size : Int) := of_decide_eq_false hle
          rw [decide_eq_false (by omega), Bool.false_and]
      rintro x w8 ⟨rfl, A8⟩
      refine ite_ok (fun hsg => ?_) fun hsg => ?_
      · rw [Bool.and_eq_true, decide_eq_true_eq] at hsg
        have hfk : first (c :: r) = .ok (6, (c :: r).take k, k) := by
          rcases (show k = 1 ∨ k = 2 by omega) with rfl | rfl
          · rw [hfk, if_neg (by omega), if_pos ⟨Nat.le_refl _, hsg.2⟩]
          · rw [hfk, if_pos ⟨Nat.le_refl _, hsg.1, hsg.2⟩]
        obtain ⟨l, B, hown⟩ := A8.st
        refine A8.b1.ld (o := 0) rfl (nn_ok (B.ld (o := 1) rfl (nn_ok (B.st (o := 1) rfl (by simp) fun w9 B9 F9 => drew_ok fun w10 F10 z10 => ?_))))
        have ew : IntKind.wrap .i64 ((i : Int) + (k : Int)) = ((i + k : Nat) : Int) := by rw [wrap_ok (by omega) (by omega)]; omega
        rw [ew] at B9
        have A9 : At w w9 b m1 m8 s i (i + k) acc e a := A8.set ⟨l, B9, own_one hown F9⟩ F9
        have A10 := A9.go F10
        have B10 := B9.fr F10 (fun h => h)
        refine A10.b1.ld (o := 0) rfl (nn_ok (B10.ld (o := 0) rfl (A10.b8.ld (o := 0) rfl (A10.b1.ld (o := 0) rfl (nn_ok (B10.ld (o := 1) rfl ?_))))))
        refine sub_ok (s := s) (l := (i : Int)) (h' := ((i + k : Nat) : Int)) (by omega) (by omega) (by omega) ?_
        have e8 : bl (s.extract ((i : Int)).toNat (((i + k : Nat) : Int)).toNat) = (c :: r).take k := by
          rw [bl_extract, Int.toNat_natCast, Int.toNat_natCast, Nat.add_sub_cancel_left, hrem]
        refine call_ok (add_done A10 (k := 6) (n := k) (by rw [hrem, hfk, e8]) rfl hacc) ?_
        rintro _ w11 ⟨rfl, hp, hB⟩
        exact ⟨((true, ()), ()), rfl, keep_cons (hB.held1 rfl) (keep_cons (hB.held1 rfl) (keep_nil hp))⟩
      · have ew : IntKind.wrap .i64 ((k : Int) - 1) = ((k - 1 : Nat) : Int) := by rw [wrap_ok (by omega) (by omega)]; omega
        rw [ew]
        refine hrec _ _ ⟨k - 1, rfl, by omega, A8, ?_⟩ (by simp only [Int.toNat_natCast]; omega)
        rcases (show k = 1 ∨ k = 2 by omega) with rfl | rfl
        · have h1 : ¬ (1 ≤ 1 ∧ isSign ((c :: r).take 1) = true) := by
            rintro ⟨_, h⟩
            rw [h, decide_eq_true (by simp)] at hsg
            cases hsg
          rw [hfk, if_neg (by omega), if_neg h1, if_neg (by omega), if_neg (by omega)]
        · have h1 : ¬ (2 ≤ 2 ∧ 2 ≤ (c :: r).length ∧ isSign ((c :: r).take 2) = true) := by
            rintro ⟨_, h1, h2⟩
            rw [h2, decide_eq_true h1] at hsg
            cases hsg
          rw [hfk, if_neg h1]
          simp
    · have hpos : ¬ (k : Int) > 0 := of_decide_eq_false hpos
      rw [hfk, if_neg (by omega), if_neg (by omega)]
end
end Go.Proofs.YthnfcbjfmghomaaGreatDoor
