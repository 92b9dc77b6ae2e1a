/- The finder law behind FRanksCard: one part of its proof (joined by program out of my own texts). No condition. -/
import Derived.Test.YticokfpaoiekgaaGreatDoorFRkAJ
import Derived.Lib.LaidU8
import Derived.Deep.DeepHandedRow
import Derived.Deep.DeepWitnessRowRef
import Derived.ProofKit
import Derived.SizedLaws
import Derived.LaidMore
import Derived.LaidHandle
import Derived.Test.YticokfpaoiekgaaGreatDoorRows
section
namespace Go.Proofs.YticokfpaoiekgaaGreatDoor
open Go.Lift Go.Lex
section
variable {w : World} {b : Nat} {s : ByteArray} {i : Nat}
set_option maxHeartbeats 4000000 in
theorem token_ok {acc : List Tok} {e a : Int} (h : St w b s i acc e a) (hg : GlobB b w) (hs : s.size ≤ 1000000) (hi : i < s.size) (hacc : acc.length ≤ 1000000) :
    Calls Tryz.prog 106 #[.pointer (some ⟨b, 0, none⟩)] w (TokP w b s i acc e a) := by
  have hsl := bl_length s
  apply c106
  unfold t106
  obtain ⟨l0, B0, hown0⟩ := h
  have hbw := B0.lt
  obtain ⟨c, r, hrem⟩ : ∃ c r, (bl s).drop i = c :: r := by
    cases hd : (bl s).drop i with
    | nil => have := List.drop_eq_nil_iff.1 hd; omega
    | cons c r => exact ⟨c, r, rfl⟩
  obtain ⟨hc, hdr, _⟩ := drop_cons_getD hrem
  have hrl : (c :: r).length = s.size - i := by rw [← hrem, List.length_drop, hsl]
  refine new_ok fun w1 m1 hm1 hs1 M1 F1 => drew_ok fun w2 F2 z2 => ?_
  have M2 := M1.fr F2 (fun h => h)
  have F02 := F1.tr F2
  have B2 := B0.fr F02 (fun h => h)
  refine M2.ld (o := 0) rfl (nn_ok (B2.ld (o := 1) rfl (M2.ld (o := 0) rfl (nn_ok ?_))))
  have peek : ∀ {w' : World}, Fr noB w2 w' → Calls Tryz.prog 102 #[.pointer (some ⟨b, 0, none⟩), .int .i64 ((0 : Nat) : Int)] w' fun e w'' => e = .returned (.int .u8 ((c.toNat : Nat) : Int)) ∧ Fr noB w' w'' := fun F => by
    have := peek_ok (k := 0) (B2.fr F (fun h => h)) hs (by omega)
    rw [Nat.add_zero, hc] at this
    exact this
  have held : ∀ {w' : World}, Fr noB w2 w' → Held w' (⟨m1, 0, none⟩, [.pointer (some ⟨b, 0, none⟩)]) ∧ Held w' (⟨b, 1, none⟩, [.int .i64 (i : Int)]) := fun F => ⟨(M2.fr F (fun h => h)).held1 rfl, (B2.fr F (fun h => h)).held1 rfl⟩
  have start : ∀ {w' : World} {m8 : Nat}, m8 ≠ b → Fr noB w2 w' → Blk w' m8 3 [.int .i64 (i : Int)] → At w w' b m1 m8 s i i acc e a := fun hm F B8 =>
    ⟨⟨l0, B2.fr F (fun h => h), own_fr0 hown0 (F02.tr F)⟩, M2.fr F (fun h => h), B8, by omega, hm, (F02.tr F).up b⟩
  refine both_ok ?ga ?gb
  case' ga =>
    refine callU8_ok (peek (Fr.refl _ _)) fun w3 F3 => ?_
    have H3 := held F3
    refine keep_cons H3.1 (keep_cons H3.2 (keep_cons H3.1 (keep_nil (new_ok fun w4 m8 hm8 hs4 B8 F4 => ?_))))
    have H4 := held (F3.tr F4)
    have := F3.size
    have := F02.size
    refine keep_cons H4.1 (keep_cons H4.2 (keep_cons H4.1 (keep_nil (B8.st (o := 0) rfl (by simp) fun w5 B85 F5 => ?_))))
    have F25 : Fr noB w2 w5 := (F3.tr F4).then F5 fun y hy h => by unfold oneB at h; omega
    refine keep_cons (held F25).1 (keep_nil ?_)
    have A5 := start (by omega) F25 B85
  case' gb =>
    refine new_ok fun w3 m8 hm8 hs3 B8 F3 => ?_
    have H3 := held F3
    have := F02.size
    refine keep_cons H3.1 (keep_cons H3.2 (keep_cons H3.1 (keep_nil (callU8_ok (peek F3) fun w4 F4 => ?_))))
    have H4 := held (F3.tr F4)
    refine keep_cons H4.1 (keep_cons H4.2 (keep_cons H4.1 (keep_nil ((B8.fr F4 (fun h => h)).st (o := 0) rfl (by simp) fun w5 B85 F5 => ?_))))
    have F25 : Fr noB w2 w5 := (F3.tr F4).then F5 fun y hy h => by unfold oneB at h; omega
    refine keep_cons (held F25).1 (keep_nil ?_)
    have A5 := start (by omega) F25 B85
  all_goals
    clear held peek start
    refine join0_ok (fun w' => (small c || great c) = false ∧ digit c = false ∧ c ≠ 34 ∧ At w w' b m1 m8 s i i acc e a) (fun k9 hk9 => ?_) ?_
    · refine join1_ok (c := .bool) (fun (x : Bool) w' => x = (small c || great c) ∧ At w w' b m1 m8 s i i acc e a) (fun k10 hk10 => ?_) ?_
      · exact callB_ok (small_ok c) fun w6 F6 => ite_ok (fun h => hk10 _ _ ⟨by rw [h]; rfl, A5.go F6⟩) fun h => callB_ok (great_ok c) fun w7 F7 => hk10 _ _ ⟨by rw [h]; rfl, (A5.go F6).go F7⟩
      rintro x w6 ⟨rfl, A6⟩
      refine ite_ok (fun halpha => ?_) fun halpha => ?_
      · obtain ⟨l, B, hown⟩ := A6.st
        refine A6.b1.ld (o := 0) rfl (nn_ok (callS_ok (while_ok B hs (by omega) pred_rest) fun w7 ⟨B7, F7⟩ => ?_))
        have A7 := A6.set ⟨l, B7, own_one hown F7⟩ F7
        have hf := first_word (r := r) halpha
        have hTl := ((c :: r).takeWhile_sublist rest).length_le
        rw [hrem] at A7 ⊢
        generalize (c :: r).takeWhile rest = T at *
        have hTs : (bs T).size < 4611686018427387904 := by rw [bs_size]; omega
        refine join0_ok (fun w' => first (c :: r) = .error ⟨60, 0⟩ ∧ At w w' b m1 m8 s i (i + T.length) acc e a) (fun k17 hk17 => ?_) (fun w' ⟨hf, A⟩ => fail_ret A (by rw [hrem, hf]))
        refine callB_ok (Word_ok (bs T)) fun w8 F8 => ?_
        rw [bl_bs]
        refine ite_ok (fun hw => add_ret (A7.go F8) (k := 5) (n := T.length) (by rw [hrem, hf, if_pos hw, bl_bs]) rfl hacc) fun hw => callB_ok (Name_ok (bs T) hTs) fun w9 F9 => ?_
        rw [bl_bs]
        rw [hw, if_neg (by decide)] at hf
        refine ite_ok (fun hw => add_ret ((A7.go F8).go F9) (k := 1) (n := T.length) (by rw [hrem, hf, if_pos hw, bl_bs]) rfl hacc) fun hw => callB_ok (Upper_ok (bs T) hTs) fun w10 F10 => ?_
        rw [bl_bs]
        rw [hw, if_neg (by decide)] at hf
        refine ite_ok (fun hw => add_ret (((A7.go F8).go F9).go F10) (k := 2) (n := T.length) (by rw [hrem, hf, if_pos hw, bl_bs]) rfl hacc) fun hw => hk17 _ ⟨?_, ((A7.go F8).go F9).go F10⟩
        rw [hf, hw, if_neg (by decide)]
      · refine callB_ok (digit_ok c) fun w7 F7 => ite_ok (fun hdig => ?_) fun hdig => ?_
        · have A7 := A6.go F7
          obtain ⟨l, B, hown⟩ := A7.st
          refine A7.b1.ld (o := 0) rfl (nn_ok (callS_ok (while_ok B hs (by omega) pred_lump) fun w8 ⟨B8', F8⟩ => ?_))
          have A8 := A7.set ⟨l, B8', own_one hown F8⟩ F8
          have hf := first_num (r := r) halpha hdig
          have hTl := ((c :: r).takeWhile_sublist lump).length_le
          have hlump : lump c = true := by unfold lump; rw [hdig]; simp
          have hT0 : (c :: r).takeWhile lump = c :: r.takeWhile lump := by rw [List.takeWhile_cons, hlump]; rfl
          rw [hrem] at A8 ⊢
          generalize (c :: r).takeWhile lump = T at *
          have hTs : (bs T).size = T.length := bs_size T
          refine join1_ok (c := .bool) (fun (x : Bool) w' => x = number T ∧ At w w' b m1 m8 s i (i + T.length) acc e a) (fun k31 hk31 => ?_) ?_
          · refine callS_ok (trim_ok (bs T) (by omega)) fun w9 F9 => ?_
            have hz : (((bs (Lib.trimS (bl (bs T)) ten)).size : Int) == 0) = T.all digit := by
              rw [bl_bs, ← ten_all, Bool.eq_iff_iff, ← trimS_nil, beq_iff_eq, bs_size, ← List.length_eq_zero_iff]
              omega
            have hnum : number T = (T.all digit && decide (T.length ≤ 15) && (T == [48] || T.head? != some 48)) := rfl
            rw [hz]
            refine ite_ok (fun hd => ite_ok (fun h15 => ?_) fun h15 => hk31 _ _ ⟨?_, A8.go F9⟩) fun hd => hk31 _ _ ⟨by rw [hnum, hd]; rfl, A8.go F9⟩
            · have h15 : ((bs T).size : Int) ≤ 15 := of_decide_eq_true h15
              have hnum : number T = (T == [48] || T.head? != some 48) := by rw [hnum, hd, decide_eq_true (p := T.length ≤ 15) (by omega)]; rfl
              rw [eq_bl, bl_bs]
              refine ite_ok (fun h48 => hk31 _ _ ⟨?_, A8.go F9⟩) fun h48 => ?_
              · have h48 : (T == [48]) = true := h48
                rw [hnum, h48]
                rfl
              · have h48 : (T == [48]) = false := h48
                refine chr_ok (i := 0) (by rw [hTs, hT0]; simp) (hk31 _ _ ⟨?_, A8.go F9⟩)
                rw [hnum, h48, Bool.false_or]
                have e0 : (bl (bs T))[0]'(by rw [bl_length, hTs, hT0]; simp) = c := by simp [bl_bs, hT0]
                rw [e0, hT0, List.head?_cons]
                have := u8_lit c 48 (z := 48) rfl
                rw [bne, this, Bool.eq_iff_iff]
                simp
            · have h15 : ¬ ((bs T).size : Int) ≤ 15 := of_decide_eq_false h15
              rw [hnum, hd, decide_eq_false (p := T.length ≤ 15) (by omega)]
              rfl
          rintro x w9 ⟨rfl, A9⟩
          refine ite_ok (fun hn => add_ret A9 (k := 3) (n := T.length) (by rw [hrem, hf, if_pos hn, bl_bs]) rfl hacc) fun hn => ?_
          rw [hn, if_neg (by decide)] at hf
          refine callVer_ok (Parse_ok (bs T) (by omega) (hg.fr A9.fr).glob) fun x0 x1 x2 p w10 F10 => ?_
          rw [bl_bs]
          refine new_ok fun w11 m41 hm41 hs11 B41 F11 => ?_
          refine B41.st (o := 0) (v := .int .i64 x0) rfl (by simp) fun w12 B42 F12 => B42.st (o := 1) (v := .int .i64 x1) rfl (by simp) fun w13 B43 F13 => B43.st (o := 2) (v := .int .i64 x2) rfl (by simp) fun w14 B44 F14 => B44.st (o := 3) (v := .string p) rfl (by simp) fun w15 B45 F15 => ?_
          have A15 := A9.go ((F10.tr F11).then (((F12.sq F13).sq F14).sq F15) fun y hy h => by have := F10.size; unfold oneB at h; omega)
          rcases Bool.eq_false_or_eq_true (verOk T) with hv | hv
          · rw [hv, if_pos rfl] at hf
            exact ite_yes (by rw [hv]; rfl) (add_ret A15 (k := 7) (n := T.length) (by rw [hrem, hf, bl_bs]) rfl hacc)
          · rw [hv, if_neg (by decide)] at hf
            exact ite_no (by rw [hv]; rfl) (fail_ret A15 (by rw [hrem, hf]))
        · have A7 := A6.go F7
          rw [u8_lit c 34 (z := 34) rfl]
          by_cases h34 : c = 34
          · subst h34
            refine ite_yes rfl (A7.b1.ld (o := 0) rfl (call_ok (quoted_ok A7.st (hg.fr A7.fr) hs hi) ?_))
            intro en w8 hp
            rw [hdr] at hp
            have hft := first_text (r := r)
            cases hq : quotedL 1 r [] with
            | ok tn =>
              obtain ⟨T, n⟩ := tn
              rw [hq] at hp hft
              obtain ⟨rfl, hS, hF⟩ := hp
              refine ⟨((bs T, ()), (true, ()), ()), rfl, ?_⟩
              exact add_ret (A7.set hS hF) (k := 4) (n := n) (by rw [hrem, hft, bl_bs]) rfl hacc
            | error f =>
              rw [hq] at hp hft
              obtain ⟨rfl, ⟨i', hS⟩, hF⟩ := hp
              refine ⟨((⟨#[]⟩, ()), (false, ()), ()), rfl, ?_⟩
              show TokP w b s i acc e a _ _
              unfold TokP
              rw [hrem, hft]
              exact ⟨rfl, ⟨i', hS⟩, (A7.set hS hF).fr⟩
          · exact ite_no (beq_eq_false_iff_ne.2 h34) (hk9 _ ⟨halpha, hdig, h34, A7⟩)
    rintro w6 ⟨halpha, hdig, h34, A6⟩
    have hf := first_sign (r := r) halpha hdig h34
    refine join0_ok (fun w' => first (c :: r) = .error ⟨60, 0⟩ ∧ At w w' b m1 m8 s i i acc e a) (fun kend hkend => ?_) (fun w' ⟨hf, A⟩ => fail_ret A (by rw [hrem, hf]))
    refine loop1_ok (c := .int .i64) (fun (n : Int) w' => ∃ k : Nat, n = (k : Int) ∧ k ≤ 2 ∧ At w w' b m1 m8 s i i acc e a ∧ first (c :: r) = (if 2 ≤ k ∧ 2 ≤ (c :: r).length ∧ isSign ((c :: r).take 2) = true then .ok (6, (c :: r).take 2, 2) else if 1 ≤ k ∧ isSign ((c :: r).take 1) = true then .ok (6, (c :: r).take 1, 1) else .error ⟨60, 0⟩))
      (fun (n : Int) => n.toNat) ?_ ⟨2, rfl, Nat.le_refl _, A6, by rw [hf]; simp only [Nat.le_refl, true_and, Nat.reduceLeDiff]⟩
    rintro rec n w7 ⟨k, rfl, hk, A7, hfk⟩ hrec
    refine ite_ok (fun hpos => ?_) fun hpos => hkend _ ⟨?_, A7⟩
    · have hpos : (k : Int) > 0 := of_decide_eq_true hpos
      refine join_in ?_
      refine join1_ok (c := .bool) (fun (x : Bool) w' => x = (decide (k ≤ (c :: r).length) && isSign ((c :: r).take k)) ∧ At w w' b m1 m8 s i i acc e a) (fun k56 hk56 => ?_) ?_
      · refine drew_ok fun w8 F8' z8 => ?_
        have A8 := A7.go F8'
        obtain ⟨l, B, hown⟩ := A8.st
        refine A8.b8.ld (o := 0) rfl (A8.b1.ld (o := 0) rfl (nn_ok (B.ld (o := 0) rfl ?_)))
        have ew : IntKind.wrap .i64 ((i : Int) + (k : Int)) = ((i + k : Nat) : Int) := by rw [wrap_ok (by omega) (by omega)]; omega
        rw [ew]
        refine ite_ok (fun hle => ?_) fun hle => hk56 _ _ ⟨?_, A8⟩
        · have hle : ((i + k : Nat) : Int) ≤ (s.size : Int) := of_decide_eq_true hle
          refine A8.b1.ld (o := 0) rfl (nn_ok (B.ld (o := 0) rfl (A8.b8.ld (o := 0) rfl (A8.b8.ld (o := 0) rfl ?_))))
          rw [ew]
          refine sub_ok (s := s) (l := (i : Int)) (h' := ((i + k : Nat) : Int)) (by omega) (by omega) (by omega) ?_
          have e8 : bl (s.extract ((i : Int)).toNat (((i + k : Nat) : Int)).toNat) = (c :: r).take k := by
            rw [bl_extract, Int.toNat_natCast, Int.toNat_natCast, Nat.add_sub_cancel_left, hrem]
          refine callB_ok (Sign_ok _) fun w9 F9 => ?_
          rw [e8]
          have A9 := A8.go F9
          have B9 := B.fr F9 (fun h => h)
          refine keep_cons (A9.b8.held1 rfl) (keep_cons (A9.b1.held1 rfl) (keep_cons (B9.held1 rfl) (keep_cons (A9.b1.held1 rfl) (keep_cons (A9.b8.held1 rfl) (keep_nil (hk56 _ _ ⟨?_, A9⟩))))))
          rw [decide_eq_true (by omega), Bool.true_and]
        · have hle : ¬ ((i + k : Nat) : Int) ≤ (s.size : Int) := of_decide_eq_false hle
          rw [decide_eq_false (by omega), Bool.false_and]
      rintro x w8 ⟨rfl, A8⟩
      refine ite_ok (fun hsg => ?_) fun hsg => ?_
      · rw [Bool.and_eq_true, decide_eq_true_eq] at hsg
        have hfk : first (c :: r) = .ok (6, (c :: r).take k, k) := by
          rcases (show k = 1 ∨ k = 2 by omega) with rfl | rfl
          · rw [hfk, if_neg (by omega), if_pos ⟨Nat.le_refl _, hsg.2⟩]
          · rw [hfk, if_pos ⟨Nat.le_refl _, hsg.1, hsg.2⟩]
        obtain ⟨l, B, hown⟩ := A8.st
        refine A8.b1.ld (o := 0) rfl (nn_ok (B.ld (o := 1) rfl (nn_ok (B.st (o := 1) rfl (by simp) fun w9 B9 F9 => drew_ok fun w10 F10 z10 => ?_))))
        have ew : IntKind.wrap .i64 ((i : Int) + (k : Int)) = ((i + k : Nat) : Int) := by rw [wrap_ok (by omega) (by omega)]; omega
        rw [ew] at B9
        have A9 : At w w9 b m1 m8 s i (i + k) acc e a := A8.set ⟨l, B9, own_one hown F9⟩ F9
        have A10 := A9.go F10
        have B10 := B9.fr F10 (fun h => h)
        refine A10.b1.ld (o := 0) rfl (nn_ok (B10.ld (o := 0) rfl (A10.b8.ld (o := 0) rfl (A10.b1.ld (o := 0) rfl (nn_ok (B10.ld (o := 1) rfl ?_))))))
        refine sub_ok (s := s) (l := (i : Int)) (h' := ((i + k : Nat) : Int)) (by omega) (by omega) (by omega) ?_
        have e8 : bl (s.extract ((i : Int)).toNat (((i + k : Nat) : Int)).toNat) = (c :: r).take k := by
          rw [bl_extract, Int.toNat_natCast, Int.toNat_natCast, Nat.add_sub_cancel_left, hrem]
        refine call_ok (add_done A10 (k := 6) (n := k) (by rw [hrem, hfk, e8]) rfl hacc) ?_
        rintro _ w11 ⟨rfl, hp, hB⟩
        exact ⟨((true, ()), ()), rfl, keep_cons (hB.held1 rfl) (keep_cons (hB.held1 rfl) (keep_nil hp))⟩
      · have ew : IntKind.wrap .i64 ((k : Int) - 1) = ((k - 1 : Nat) : Int) := by rw [wrap_ok (by omega) (by omega)]; omega
        rw [ew]
        refine hrec _ _ ⟨k - 1, rfl, by omega, A8, ?_⟩ (by simp only [Int.toNat_natCast]; omega)
        rcases (show k = 1 ∨ k = 2 by omega) with rfl | rfl
        · have h1 : ¬ (1 ≤ 1 ∧ isSign ((c :: r).take 1) = true) := by
            rintro ⟨_, h⟩
            rw [h, decide_eq_true (by simp)] at hsg
            cases hsg
          rw [hfk, if_neg (by omega), if_neg h1, if_neg (by omega), if_neg (by omega)]
        · have h1 : ¬ (2 ≤ 2 ∧ 2 ≤ (c :: r).length ∧ isSign ((c :: r).take 2) = true) := by
            rintro ⟨_, h1, h2⟩
            rw [h2, decide_eq_true h1] at hsg
            cases hsg
          rw [hfk, if_neg h1]
          simp
    · have hpos : ¬ (k : Int) > 0 := of_decide_eq_false hpos
      rw [hfk, if_neg (by omega), if_neg (by omega)]
end
end Go.Proofs.YticokfpaoiekgaaGreatDoor
end
section
namespace Go.Lex
theorem quotedF_end : ∀ (f i : Nat) (s out : B) (t : B) (n : Nat), quotedF f i s out = .ok (t, n) → i < n ∧ n ≤ i + s.length
  | 0, i, s, out, t, n, h => by simp [quotedF] at h
  | f + 1, i, [], out, t, n, h => by simp [quotedF] at h
  | f + 1, i, c :: r, out, t, n, h => by
    unfold quotedF at h
    split at h
    · simp only [Except.ok.injEq, Prod.mk.injEq] at h
      simp only [List.length_cons]
      omega
    split at h
    · cases h
    split at h
    · cases r with
      | nil => cases h
      | cons e r' =>
        simp only [] at h
        cases he : esc e with
        | none => rw [he] at h; cases h
        | some b =>
          rw [he] at h
          have := quotedF_end f _ _ _ _ _ h
          simp only [List.length_cons]
          omega
    · have hle := utfLen_le (c :: r)
      cases hu : utfLen (c :: r) with
      | zero => rw [hu] at h; cases h
      | succ k =>
        rw [hu] at h hle
        have := quotedF_end f _ _ _ _ _ h
        rw [List.length_drop] at this
        omega
theorem first_pos {s t : B} {k n : Nat} (h : first s = .ok (k, t, n)) : 1 ≤ n ∧ n ≤ s.length := by
  cases s with
  | nil => cases h
  | cons c r =>
    unfold first at h
    simp only [] at h
    split at h
    · rename_i hal
      have h0 : rest c = true := by unfold rest; rw [hal]; simp
      have h1 : 1 ≤ ((c :: r).takeWhile rest).length := by rw [List.takeWhile_cons, h0]; simp
      have h2 := ((c :: r).takeWhile_sublist rest).length_le
      repeat' split at h
      all_goals first | (simp only [Except.ok.injEq, Prod.mk.injEq] at h; omega) | cases h
    split at h
    · rename_i hal
      have h0 : lump c = true := by unfold lump; rw [hal]; simp
      have h1 : 1 ≤ ((c :: r).takeWhile lump).length := by rw [List.takeWhile_cons, h0]; simp
      have h2 := ((c :: r).takeWhile_sublist lump).length_le
      repeat' split at h
      all_goals first | (simp only [Except.ok.injEq, Prod.mk.injEq] at h; omega) | cases h
    split at h
    · split at h
      · rename_i t' n' hq
        have := quotedF_end _ _ _ _ _ _ hq
        simp only [Except.ok.injEq, Prod.mk.injEq] at h
        simp only [List.length_cons]
        omega
      · cases h
    split at h
    · rename_i h2
      simp only [Except.ok.injEq, Prod.mk.injEq] at h
      omega
    split at h
    · simp only [Except.ok.injEq, Prod.mk.injEq] at h
      simp only [List.length_cons]
      omega
    · cases h
def comment (s : B) : B := s.takeWhile (· != 10)
theorem comment_pos (r : B) : 1 ≤ (comment (45 :: r)).length := by simp [comment]
theorem scanF_fuel : ∀ (f g i : Nat) (s : B) (acc : List Tok), s.length < f → s.length < g → scanF f i s acc = scanF g i s acc
  | 0, _, _, _, _, h, _ => by omega
  | _, 0, _, _, _, _, h => by omega
  | f + 1, g + 1, i, [], acc, _, _ => rfl
  | f + 1, g + 1, i, c :: r, acc, hf, hg => by
    simp only [List.length_cons] at hf hg
    unfold scanF
    split
    · exact scanF_fuel f g _ _ _ (by omega) (by omega)
    split
    · rename_i h
      have h1 : 1 ≤ ((c :: r).takeWhile (· != 10)).length := by rw [h.1]; exact comment_pos r
      simp only []
      cases utfBad ((c :: r).takeWhile (· != 10)) with
      | some k => rfl
      | none => exact scanF_fuel f g _ _ _ (by rw [List.length_drop, List.length_cons]; omega) (by rw [List.length_drop, List.length_cons]; omega)
    · cases hfst : first (c :: r) with
      | error e => rfl
      | ok x =>
        obtain ⟨k, t, n⟩ := x
        have := first_pos hfst
        exact scanF_fuel f g _ _ _ (by rw [List.length_drop, List.length_cons]; omega) (by rw [List.length_drop, List.length_cons]; omega)
def scanL (i : Nat) (s : B) (acc : List Tok) : Except Fault (List Tok) := scanF (s.length + 1) i s acc
theorem scanL_F {f i : Nat} {s : B} {acc : List Tok} (h : s.length < f) : scanF f i s acc = scanL i s acc := scanF_fuel _ _ _ _ _ h (Nat.lt_succ_self _)
theorem scanL_nil (i : Nat) (acc : List Tok) : scanL i [] acc = .ok (acc ++ [⟨0, [], i⟩]) := rfl
theorem scanL_blank {i : Nat} {c : UInt8} {r : B} {acc : List Tok} (h : blank c = true) : scanL i (c :: r) acc = scanL (i + 1) r acc := by
  conv => lhs; unfold scanL scanF
  rw [if_pos h]
  exact scanL_F (by simp)
theorem scanL_line {i : Nat} {c : UInt8} {r : B} {acc : List Tok} (h : blank c = false) (h2 : c = 45 ∧ r.head? = some 45) : scanL i (c :: r) acc = match utfBad (comment (c :: r)) with
    | some k => .error ⟨30, i + k⟩
    | none => scanL (i + (comment (c :: r)).length) ((c :: r).drop (comment (c :: r)).length) acc := by
  have h1 : 1 ≤ ((c :: r).takeWhile (· != 10)).length := by rw [h2.1]; exact comment_pos r
  conv => lhs; unfold scanL scanF
  rw [if_neg (by rw [h]; decide), if_pos h2]
  simp only [comment]
  cases utfBad ((c :: r).takeWhile (· != 10)) with
  | some k => rfl
  | none => exact scanL_F (by rw [List.length_drop, List.length_cons]; omega)
theorem scanL_tok {i : Nat} {c : UInt8} {r : B} {acc : List Tok} (h : blank c = false) (h2 : ¬ (c = 45 ∧ r.head? = some 45)) : scanL i (c :: r) acc = match first (c :: r) with
    | .error e => .error ⟨e.err, i + e.at'⟩
    | .ok (k, t, n) => scanL (i + n) ((c :: r).drop n) (acc ++ [⟨k, t, i⟩]) := by
  conv => lhs; unfold scanL scanF
  rw [if_neg (by rw [h]; decide), if_neg h2]
  cases hfst : first (c :: r) with
  | error e => rfl
  | ok x =>
    obtain ⟨k, t, n⟩ := x
    have := first_pos hfst
    exact scanL_F (by rw [List.length_drop, List.length_cons]; omega)
theorem scan_L {s : B} (h : s.length ≤ 4096) : scan s = scanL 0 s [] := by unfold scan; rw [if_neg (by omega)]; rfl
theorem scan_big {s : B} (h : 4096 < s.length) : scan s = .error ⟨3, 4096⟩ := by unfold scan; rw [if_pos h]
end Go.Lex
end
section
namespace Go.Lift
theorem own_mono {w : World} {base base' e sz n : Nat} {v : Value} {xs : List Value} (h : w.ownsRow base e sz v n xs) (hb : base' ≤ base) : w.ownsRow base' e sz v n xs := by
  refine ⟨h.1, ?_⟩
  rcases h.2 with h | ⟨g, cap, cur, rfl, h0, r⟩
  · exact .inl h
  · exact .inr ⟨g, cap, cur, rfl, Nat.le_trans hb h0, r⟩
end Go.Lift
namespace Go.Proofs.YticokfpaoiekgaaGreatDoor
open Go.Lift Go.Lex
section
variable {w : World} {R : Ending → World → Prop}
theorem fault_ret {b m : Nat} {t tm : TypeId} {v0 v1 v2 x y : Value} {e a : Int} (_ : m ≠ b) (B1 : Blk w b t [v0, v1, v2, .int .i64 e, .int .i64 a]) (M1 : Blk w m tm [x, y])
    (h : ∀ w', Fr (oneB m) w w' → R (.returned (.tuple #[.slice none 0 0, .agg #[.int .i64 e, .int .i64 a]])) w') :
    drewG (ldG (CT.int IntKind.i64) (Addr.mk b 3 Option.none) (fun (n21 : Int) => ldG (CT.int IntKind.i64) (Addr.mk b 4 Option.none) (fun (n22 : Int) => stG (Addr.mk m 0 Option.none) (Value.int IntKind.i64 n21) (stG (Addr.mk m 1 Option.none) (Value.int IntKind.i64 n22)
      (ldG (CT.int IntKind.i64) (Addr.mk m 0 Option.none) (fun (n23 : Int) => ldG (CT.int IntKind.i64) (Addr.mk m 1 Option.none) (fun (n24 : Int) => retG (Value.tuple #[(Value.slice Option.none 0 0), (Value.agg #[(Value.int IntKind.i64 n23), (Value.int IntKind.i64 n24)])])))))))) R w := by
  refine drew_ok fun w1 F1 z1 => ?_
  have B2 := B1.fr F1 (fun h => h)
  refine B2.ld (o := 3) rfl (B2.ld (o := 4) rfl ?_)
  refine (M1.fr F1 (fun h => h)).st (o := 0) rfl (by simp) fun w2 M2 F2 => M2.st (o := 1) rfl (by simp) fun w3 M3 F3 => ?_
  exact M3.ld (o := 0) rfl (M3.ld (o := 1) rfl (h _ (((F1.mono fun _ _ h => h.elim).sq F2).sq F3)))
def ScanP (w : World) (s : ByteArray) : Ending → World → Prop := fun en w' => (match scan (bl s) with
    | .ok toks => ∃ l : Sl, en = .returned (.tuple #[.slice l.a l.n l.c, .agg #[.int .i64 0, .int .i64 0]]) ∧ w'.ownsRow w.heap.size 124 3 (.slice l.a l.n l.c) toks.length (toks.flatMap tokCells)
    | .error f => en = .returned (.tuple #[.slice none 0 0, .agg #[.int .i64 (f.err : Int), .int .i64 (f.at' : Int)]])) ∧ Fr noB w w'
set_option maxHeartbeats 4000000 in
theorem Scan_ok (s : ByteArray) (hg : Glob w) : Calls Tryz.prog 80 #[.string s] w (ScanP w s) := by
  have hsl := bl_length s
  apply c80
  unfold t80
  refine new_ok fun w1 m1 hm1 hs1 M1 F1 => ite_ok (fun hbig => ?_) fun hsmall => ?_
  · have hbig : (s.size : Int) > 4096 := of_decide_eq_true hbig
    refine M1.st (o := 0) rfl (by simp) fun w2 M2 F2 => M2.st (o := 1) rfl (by simp) fun w3 M3 F3 => M3.ld (o := 0) rfl (M3.ld (o := 1) rfl ?_)
    show ScanP w s _ _
    unfold ScanP
    rw [scan_big (by omega)]
    exact ⟨rfl, F1.then (F2.sq F3) fun y hy h => by unfold oneB at h; omega⟩
  have hsmall : ¬ (s.size : Int) > 4096 := of_decide_eq_false hsmall
  refine new_ok fun w2 b hb hs2 B2 F2 => ?_
  have M2 := M1.fr F2 (fun h => h)
  have F02 := F1.tr F2
  have hmb : m1 ≠ b := by omega
  have hwb : w.heap.size ≤ b := by omega
  have hm1b : m1 < b := by omega
  have hscan := scan_L (s := bl s) (by omega)
  have S2 : St w2 b s 0 [] 0 0 := ⟨⟨none, 0, 0⟩, B2, rfl, .inl ⟨rfl, rfl⟩⟩
  have hg2 : GlobB b w2 := GlobB.of hg F02 hwb
  have fin : ∀ {w' w'' : World}, Fr (bh b) w2 w' → Fr (oneB m1) w' w'' → Fr noB w w'' := fun F G => (F02.then F fun y hy h => by unfold bh at h; omega).then G fun y hy h => by unfold oneB at h; omega
  -- the way out with a fault
  have out : ∀ {w' : World} {i' : Nat} {acc : List Tok} {f : Fault}, scan (bl s) = .error f → St w' b s i' acc (f.err : Int) (f.at' : Int) → Fr (bh b) w2 w' →
      drewG (ldG (CT.int IntKind.i64) (Addr.mk b 3 Option.none) (fun (n21 : Int) => ldG (CT.int IntKind.i64) (Addr.mk b 4 Option.none) (fun (n22 : Int) => stG (Addr.mk m1 0 Option.none) (Value.int IntKind.i64 n21) (stG (Addr.mk m1 1 Option.none) (Value.int IntKind.i64 n22)
        (ldG (CT.int IntKind.i64) (Addr.mk m1 0 Option.none) (fun (n23 : Int) => ldG (CT.int IntKind.i64) (Addr.mk m1 1 Option.none) (fun (n24 : Int) => retG (Value.tuple #[(Value.slice Option.none 0 0), (Value.agg #[(Value.int IntKind.i64 n23), (Value.int IntKind.i64 n24)])])))))))) (ScanP w s) w' := by
    intro w' i' acc f hf hS F
    obtain ⟨l, B, _⟩ := hS
    refine fault_ret hmb B (M2.fr F (fun h => by unfold bh at h; omega)) fun w'' G => ?_
    unfold ScanP
    rw [hf]
    exact ⟨rfl, fin F G⟩
  refine join0_ok (fun w' => ∃ acc, scan (bl s) = .ok (acc ++ [⟨0, [], s.size⟩]) ∧ acc.length ≤ s.size ∧ St w' b s s.size acc 0 0 ∧ Fr (bh b) w2 w') (fun k5 hk5 => ?_) ?_
  · refine loop0_ok (fun m w' => ∃ (j : Nat) (acc : List Tok), m = s.size - j ∧ j ≤ s.size ∧ acc.length ≤ j ∧ St w' b s j acc 0 0 ∧ Fr (bh b) w2 w' ∧ scan (bl s) = scanL j ((bl s).drop j) acc) (fun m rec w3 hI hrec => ?_) (n := s.size) ⟨0, [], rfl, Nat.zero_le _, Nat.le_refl _, S2, Fr.refl _ _, hscan⟩
    obtain ⟨j, acc, rfl, hj, hacc, S3, F3, hq⟩ := hI
    refine join_in ?_
    obtain ⟨l, B3, hown3⟩ := S3
    refine callU8_ok (peek_ok (k := 0) B3 (by omega) (by omega)) fun w4 F4 => ?_
    have S4 : St w4 b s j acc 0 0 := St.fr ⟨l, B3, hown3⟩ F4
    have B4 := B3.fr F4 (fun h => h)
    have F24 := F3.sq (F4.up b)
    rw [Nat.add_zero]
    cases hrem : (bl s).drop j with
    | nil =>
      have hjs : j = s.size := by have := List.drop_eq_nil_iff.1 hrem; omega
      subst hjs
      refine join_in (B4.ld (o := 1) rfl (ite_yes (by simp) (hk5 _ ⟨acc, ?_, hacc, S4, F24⟩)))
      rw [hq, hrem, scanL_nil]
    | cons c r =>
      obtain ⟨hc, hdr, hlt⟩ := drop_cons_getD hrem
      rw [hsl] at hlt
      rw [hc]
      rw [hrem] at hq
      have hrl : (c :: r).length = s.size - j := by rw [← hrem, List.length_drop, hsl]
      refine join0_ok (fun w' => Lex.blank c = false ∧ ¬ (c = 45 ∧ r.head? = some 45) ∧ St w' b s j acc 0 0 ∧ Fr (bh b) w2 w') (fun k9 hk9 => ?_) ?_
      · refine B4.ld (o := 1) rfl (ite_no (by rw [beq_eq_false_iff_ne]; omega) ?_)
        refine join1_ok (c := .bool) (fun (x : Bool) w' => x = Lex.blank c ∧ w' = w4) (fun kb hkb => ?_) ?_
        · rw [u8_lit c 32 (z := 32) rfl, u8_lit c 10 (z := 10) rfl, u8_lit c 9 (z := 9) rfl, u8_lit c 13 (z := 13) rfl]
          unfold Lex.blank at hkb
          generalize (c == 32) = x1 at *
          generalize (c == 10) = x2 at *
          generalize (c == 9) = x3 at *
          generalize (c == 13) = x4 at *
          exact ite_ok (fun h => hkb _ _ ⟨by rw [h]; rfl, rfl⟩) fun h => ite_ok (fun h2 => hkb _ _ ⟨by rw [h, h2]; rfl, rfl⟩) fun h2 => ite_ok (fun h3 => hkb _ _ ⟨by rw [h, h2, h3]; rfl, rfl⟩) fun h3 => hkb _ _ ⟨by rw [h, h2, h3]; rfl, rfl⟩
        rintro x w' ⟨rfl, hw⟩
        replace hw := hw.symm
        subst hw
        refine ite_ok (fun hbl => ?_) fun hbl => ?_
        · refine B4.ld (o := 1) rfl (B4.st (o := 1) rfl (by simp) fun w5 B5 F5 => hrec (s.size - (j + 1)) w5 (by omega) ⟨j + 1, acc, rfl, by omega, by omega, ⟨l, ?_, own_one (own_fr0 hown3 F4) F5⟩, F24.sq F5.one, ?_⟩)
          · have ew : IntKind.wrap .i64 ((j : Int) + 1) = ((j + 1 : Nat) : Int) := by rw [wrap_ok (by omega) (by omega)]; omega
            rw [← ew]
            exact B5
          · rw [hq, scanL_blank hbl, hdr]
        refine join1_ok (c := .bool) (fun (x : Bool) w' => (x = true ↔ (c = 45 ∧ r.head? = some 45)) ∧ Fr noB w4 w') (fun kb hkb => ?_) ?_
        · rw [u8_lit c 45 (z := 45) rfl]
          refine ite_ok (fun h => callU8_ok (peek_ok (k := 1) B4 (by omega) (by omega)) fun w5 F5 => ?_) fun h => hkb _ _ ⟨?_, Fr.refl _ _⟩
          rotate_left
          · have h : ¬ c = 45 := by simpa using h
            simp [h]
          have h : c = 45 := by simpa using h
          rw [u8_lit _ 45 (z := 45) rfl]
          refine hkb _ _ ⟨?_, F5⟩
          have hd1 : (bl s).getD (j + 1) 0 = (r.head?.getD 0) := by
            cases r with
            | nil => exact drop_nil_getD hdr
            | cons y r => exact (drop_cons_getD hdr).1
          rw [hd1, beq_iff_eq]
          cases r with
          | nil => simp [h]
          | cons y r => simp [h]
        rintro x w5 ⟨hx, F5⟩
        have B5 := B4.fr F5 (fun h => h)
        have S5 := S4.fr F5
        have F25 := F24.sq (F5.up b)
        refine ite_ok (fun h => ?_) fun h => hk9 _ ⟨hbl, (fun hh => by rw [hx.2 hh] at h; cases h), S5, F25⟩
        have hline := hx.1 h
        have hT := scanL_line (i := j) (acc := acc) hbl hline
        have hT1 : 1 ≤ (comment (c :: r)).length := by rw [hline.1]; exact comment_pos r
        have hT2 := ((c :: r).takeWhile_sublist (· != 10)).length_le
        refine B5.ld (o := 1) rfl (callS_ok (while_ok B5 (by omega) (by omega) pred_line) fun w6 ⟨B6, F6⟩ => ?_)
        rw [hrem] at B6
        change Blk w6 b _ (_ :: .int .i64 ((j + (comment (c :: r)).length : Nat) : Int) :: _) at B6
        have F26 := F25.sq F6.one
        refine B6.ld (o := 1) rfl (call_ok (whole_ok (i := j) (j := j + (comment (c :: r)).length) B6 (hg2.fr F26).glob (by omega) (by omega) (by unfold comment; omega)) ?_)
        intro en w7 hpost
        have etk : ((bl s).drop j).take (j + (comment (c :: r)).length - j) = comment (c :: r) := by
          rw [hrem, Nat.add_sub_cancel_left]
          exact (List.prefix_iff_eq_take.1 (List.takeWhile_prefix _)).symm
        rw [etk] at hpost
        have hown6 := own_one (own_fr0 (own_fr0 hown3 F4) F5) F6
        cases hu : utfBad (comment (c :: r)) with
        | some k =>
          rw [hu] at hpost hT
          obtain ⟨rfl, B7, F7⟩ := hpost
          refine ⟨((false, ()), ()), rfl, ?_⟩
          exact out (f := ⟨30, j + k⟩) (hq.trans hT) ⟨l, B7, own_one hown6 F7⟩ (F26.sq F7.one)
        | none =>
          rw [hu] at hpost hT
          obtain ⟨rfl, F7⟩ := hpost
          refine ⟨((true, ()), ()), rfl, ?_⟩
          refine hrec (s.size - (j + (comment (c :: r)).length)) w7 (by omega) ⟨j + (comment (c :: r)).length, acc, rfl, by unfold comment; omega, by omega, ⟨l, B6.fr F7 (fun h => h), own_fr0 hown6 F7⟩, F26.sq (F7.up b), ?_⟩
          rw [hq, hT, ← hrem, List.drop_drop]
      · rintro w5 ⟨hbl, hln, S5, F25⟩
        have hT := scanL_tok (i := j) (acc := acc) hbl hln
        refine call_ok (token_ok S5 (hg2.fr F25) (by omega) hlt (by omega)) ?_
        intro en w6 hp
        unfold TokP at hp
        rw [hrem] at hp
        cases hf : first (c :: r) with
        | error f =>
          rw [hf] at hp hT
          obtain ⟨rfl, ⟨i', S6⟩, F6⟩ := hp
          refine ⟨((false, ()), ()), rfl, ?_⟩
          exact out (f := ⟨f.err, j + f.at'⟩) (hq.trans hT) S6 (F25.sq F6)
        | ok x =>
          obtain ⟨k, t, n⟩ := x
          have hpos := first_pos hf
          rw [hf] at hp hT
          obtain ⟨rfl, S6, F6⟩ := hp
          refine ⟨((true, ()), ()), rfl, ?_⟩
          refine hrec (s.size - (j + n)) w6 (by omega) ⟨j + n, _, rfl, by omega, by rw [List.length_append, List.length_singleton]; omega, S6, F25.sq F6, ?_⟩
          rw [hq, hT, ← hrem]
          simp only [List.drop_drop]
  rintro w3 ⟨acc, hsc, hacc, ⟨l, B3, hown3⟩, F3⟩
  have M3 := M2.fr F3 (fun h => by unfold bh at h; omega)
  refine B3.ldS (o := 2) rfl (new_ok fun w4 m31 hm31 hs4 B31 F4 => ?_)
  have hown4 := own_fr0 hown3 F4
  have B4 := B3.fr F4 (fun h => h)
  have M4 := M3.fr F4 (fun h => h)
  obtain ⟨ti, z, hi, hz, h1, h2, h3⟩ := rTok
  have hb4 := B4.lt
  refine appendC_ok uToks hi hz h1 h2 (by rw [h3]; rfl) (by omega) (s := l) hown4 (m := 1) (news := [.int .i64 0, .string ⟨#[]⟩, .int .i64 (s.size : Int)]) rfl (B31.held fun j v hj => by rw [Nat.zero_add]; exact hj)
    (fun u hu => by simp only [List.mem_cons, List.not_mem_nil, or_false] at hu; rcases hu with rfl | rfl | rfl <;> rfl) (by unfold maxLen; omega) (by omega) (by omega) fun l' w5 hown5 F5 => ?_
  have M5 := M4.fr F5 (fun h => own_ne hown4 M4 (by decide) _ h rfl)
  refine M5.st (o := 0) rfl (by simp) fun w6 M6 F6 => M6.st (o := 1) rfl (by simp) fun w7 M7 F7 => M7.ld (o := 0) rfl (M7.ld (o := 1) rfl ?_)
  show ScanP w s _ _
  unfold ScanP
  rw [hsc]
  refine ⟨⟨l', rfl, ?_⟩, fin ((F3.sq (F4.up b)).then F5 fun y hy h => ?_) (F6.sq F7)⟩
  · rw [List.length_append, List.flatMap_append]
    have := own_fr (own_fr hown5 F6 fun k hk e => own_ne hown5 M5 (by decide) _ hk e.symm) F7 fun k hk e => by
      have := own_ne hown5 M5 (by decide) _ hk
      exact this e.symm
    have := own_mono this (base' := w.heap.size) (by omega)
    simpa [tokCells, bs] using this
  · have := (hown4.lt y h).1
    unfold bh
    omega
end
end Go.Proofs.YticokfpaoiekgaaGreatDoor
end
section
namespace Go.Proofs.YticokfpaoiekgaaGreatDoor
open Go.Lift Go.Lex
theorem own : ownKnob Tryz.prog.godebug = none := by kernel_rfl
theorem first_eq : Go.Pinned.utf8First = Lib.firstData := by kernel_rfl
theorem accept_eq : (Rows.laid_unicode_utf8_acceptRanges : DataW Unit) = Lib.acceptData := by kernel_rfl
theorem globs {W : World} (hL : laidMetH Tryz.prog Rows.finderRanksRow.laid W) (hS : W.ShapedOpen Tryz.prog) : Glob W := by
  have hL := hL
  rw [MakeChecks.laidMetH_plain _ _ _ (by kernel_rfl)] at hL
  refine ⟨Go.Proofs.cell_of_shapedOpen_int (zero := #[.int .i64 0]) (t := 3) hS (of_decide_eq_true (by kernel_rfl)) (by kernel_rfl) rfl (by kernel_rfl) (by kernel_rfl) Tryz.underlying3, ?_⟩
  refine utf8Tabs_of_reads Tryz.lays260 ⟨by kernel_rfl, by kernel_rfl, by kernel_rfl, by kernel_rfl, by kernel_rfl, by kernel_rfl, by kernel_rfl⟩ ?_ ?_
  · rw [← first_eq]
    exact Lib.laidMet.reads hL (List.mem_of_getElem? (i := 6) rfl)
  · rw [← accept_eq]
    exact Lib.laidMet.reads hL (List.mem_of_getElem? (i := 3) rfl)
noncomputable def doorWorld (os : Os) : World :=
  let w0 := World.doorLaid Tryz.prog 72 os
  { w0 with heap := w0.heap.modify 1 fun
      | .cells _ t frozen => .cells (Lib.firstTab.map fun z => Value.int .u8 z).toArray t frozen
      | o => o }
theorem door_met (os : Os) (args : Array Value) : laidMetH Tryz.prog Rows.finderRanksRow.laid ((doorWorld os).forCall (fun _ _ => 0) ⟨#[], args, []⟩).memory :=
  laidMetH_of_parts3 (fuel := 8) (laidMet_of_run' 8 (by kernel_rfl) (by kernel_rfl)) (by kernel_rfl) (by kernel_rfl)
end Go.Proofs.YticokfpaoiekgaaGreatDoor
end
