/- The finder law behind FRanksCard: one part of its proof (joined by program out of my own texts). No condition. -/
import Derived.Test.YticokfpaoiekgaaGreatDoorFRkAH
import Derived.Lib.Split
import Derived.Lib.Atoi
section
namespace Go.Lex
set_option maxHeartbeats 4000000 in
theorem utfLen_stop {t r : B} (ht : t ≠ []) (hr : ∀ c, r.head? = some c → c.toNat < 128) : utfLen (t ++ r) = utfLen t := by
  cases r with
  | nil => rw [List.append_nil]
  | cons x r =>
    have hx := hr x rfl
    rw [utfLen_N ht, utfLen_N (by simp)]
    match t, ht with
    | [a], _ =>
      simp only [List.cons_append, List.nil_append, utfN, at0, List.length_cons, List.length_nil, List.getD_cons_zero, List.getD_cons_succ]
      repeat' split
      all_goals first | rfl | omega
    | [a, b], _ =>
      simp only [List.cons_append, List.nil_append, utfN, at0, List.length_cons, List.length_nil, List.getD_cons_zero, List.getD_cons_succ]
      repeat' split
      all_goals first | rfl | omega
    | [a, b, c], _ =>
      simp only [List.cons_append, List.nil_append, utfN, at0, List.length_cons, List.length_nil, List.getD_cons_zero, List.getD_cons_succ]
      repeat' split
      all_goals first | rfl | omega
    | a :: b :: c :: d :: t, _ =>
      simp only [List.cons_append, utfN, at0, List.length_cons, List.length_append, List.getD_cons_zero, List.getD_cons_succ]
      repeat' split
      all_goals first | rfl | omega
theorem quotedF_fuel : ∀ (f g i : Nat) (s out : B), s.length < f → s.length < g → quotedF f i s out = quotedF g i s out
  | 0, _, _, _, _, h, _ => by omega
  | _, 0, _, _, _, _, h => by omega
  | f + 1, g + 1, i, [], out, _, _ => rfl
  | f + 1, g + 1, i, c :: r, out, hf, hg => by
    simp only [List.length_cons] at hf hg
    unfold quotedF
    split
    · rfl
    split
    · rfl
    split
    · cases r with
      | nil => rfl
      | cons e r' =>
        simp only [List.length_cons] at hf hg
        simp only []
        cases esc e with
        | none => rfl
        | some b => exact quotedF_fuel f g _ _ _ (by omega) (by omega)
    · cases hu : utfLen (c :: r) with
      | zero => rfl
      | succ n => exact quotedF_fuel f g _ _ _ (by rw [List.length_drop, List.length_cons]; omega) (by rw [List.length_drop, List.length_cons]; omega)
def quotedL (i : Nat) (s out : B) : Except Fault (B × Nat) := quotedF (s.length + 1) i s out
theorem quotedL_F {f i : Nat} {s out : B} (h : s.length < f) : quotedF f i s out = quotedL i s out := quotedF_fuel _ _ _ _ _ h (Nat.lt_succ_self _)
theorem quotedL_end (i : Nat) (r out : B) : quotedL i (34 :: r) out = .ok (out, i + 1) := rfl
theorem quotedL_low {i : Nat} {c : UInt8} {r out : B} (h : c.toNat < 32) : quotedL i (c :: r) out = .error ⟨60, 0⟩ := by
  unfold quotedL quotedF
  rw [if_neg (by rintro rfl; revert h; decide), if_pos h]
theorem quotedL_esc (i : Nat) (e : UInt8) (r out : B) : quotedL i (92 :: e :: r) out = match esc e with
    | some b => quotedL (i + 2) r (out ++ [b])
    | none => .error ⟨60, 0⟩ := by
  conv => lhs; unfold quotedL quotedF
  rw [if_neg (by decide), if_neg (by decide), if_pos rfl]
  simp only []
  cases esc e with
  | none => rfl
  | some b => exact quotedL_F (by simp only [List.length_cons]; omega)
theorem quotedL_run : ∀ (m : Nat) (t r out : B) (i : Nat), t.length ≤ m → (∀ c ∈ t, 32 ≤ c.toNat ∧ c ≠ 34 ∧ c ≠ 92) → (∀ c, r.head? = some c → c.toNat < 128) →
    quotedL i (t ++ r) out = match utfBad t with
      | none => quotedL (i + t.length) r (out ++ t)
      | some k => .error ⟨30, i + k⟩
  | _, [], r, out, i, _, _, _ => by simp [utfBad_nil]
  | 0, c :: t, r, out, i, h, _, _ => by simp at h
  | m + 1, c :: t, r, out, i, h, ht, hr => by
    obtain ⟨h1, h2, h3⟩ := ht c (by simp)
    have hs := utfLen_stop (t := c :: t) (by simp) hr
    have hle := utfLen_le (c :: t)
    conv => lhs; unfold quotedL quotedF
    rw [List.cons_append]
    simp only []
    rw [if_neg h2, if_neg (by omega), if_neg h3, ← List.cons_append, hs]
    cases hu : utfLen (c :: t) with
    | zero => rw [utfBad_bad (by simp) hu]; rfl
    | succ n =>
      simp only []
      rw [hu] at hle
      rw [utfBad_step (Nat.succ_pos n) hu, List.drop_append_of_le_length hle, List.take_append_of_le_length hle, quotedL_F (by simp only [List.length_append, List.length_drop, List.length_cons]; omega)]
      rw [quotedL_run m ((c :: t).drop (n + 1)) r _ _ (by rw [List.length_drop]; omega) (fun x hx => ht x (List.mem_of_mem_drop hx)) hr]
      cases utfBad ((c :: t).drop (n + 1)) with
      | none =>
        simp only [Option.map_none]
        rw [List.append_assoc, List.take_append_drop, List.length_drop]
        congr 1
        omega
      | some k =>
        simp only [Option.map_some]
        congr 2
        omega
end Go.Lex
end
section
namespace Go.Lex
theorem esc_at (e : UInt8) : (esc e = none ∧ Lib.indexByte [110, 116, 34, 92] e = -1) ∨ ∃ k : Nat, k < 4 ∧ Lib.indexByte [110, 116, 34, 92] e = (k : Int) ∧ esc e = some ([10, 9, 34, 92].getD k 0) := by
  by_cases h1 : e = 110
  · subst h1; exact .inr ⟨0, by decide, by decide, by decide⟩
  by_cases h2 : e = 116
  · subst h2; exact .inr ⟨1, by decide, by decide, by decide⟩
  by_cases h3 : e = 34
  · subst h3; exact .inr ⟨2, by decide, by decide, by decide⟩
  by_cases h4 : e = 92
  · subst h4; exact .inr ⟨3, by decide, by decide, by decide⟩
  refine .inl ⟨by unfold esc; rw [if_neg h1, if_neg h2, if_neg h3, if_neg h4], ?_⟩
  have e1 : ¬ (110 : UInt8) = e := fun h => h1 h.symm
  have e2 : ¬ (116 : UInt8) = e := fun h => h2 h.symm
  have e3 : ¬ (34 : UInt8) = e := fun h => h3 h.symm
  have e4 : ¬ (92 : UInt8) = e := fun h => h4 h.symm
  simp [Lib.indexByte, e1, e2, e3, e4]
theorem drop_nil_getD {l : B} {n : Nat} (h : l.drop n = []) : l.getD n 0 = 0 := by
  rw [List.getD_eq_getElem?_getD, List.getElem?_eq_none (List.drop_eq_nil_iff.1 h)]
  rfl
theorem drop_cons_getD {l r : B} {c : UInt8} {n : Nat} (h : l.drop n = c :: r) : l.getD n 0 = c ∧ l.drop (n + 1) = r ∧ n < l.length := by
  have hn : n < l.length := by
    have := congrArg List.length h
    rw [List.length_drop, List.length_cons] at this
    omega
  have e := List.drop_eq_getElem_cons hn
  rw [e] at h
  cases h
  refine ⟨?_, rfl, hn⟩
  rw [List.getD_eq_getElem?_getD, List.getElem?_eq_getElem hn]
  rfl
end Go.Lex
namespace Go.Proofs.YticokfpaoiekgaaGreatDoor
open Go.Lift Go.Lex
theorem uBytes : Tryz.prog.underlying 197 = some (.slice 5) := by kernel_rfl
theorem uByte : Tryz.prog.underlying 5 = some (.int .u8) := by kernel_rfl
theorem rByte : rowSays Tryz.prog 5 1 1 #[.int .u8 0] := rowSays_of (by kernel_rfl)
theorem rByte' : ∃ i, Tryz.prog.info? 5 = some i ∧ i.zero = some (.int .u8 0) ∧ i.size = 1 ∧ i.bytes = 1 := by
  have h : (Tryz.prog.info? 5).map (fun i => (i.zero, i.size, i.bytes)) = some (some (.int .u8 0), 1, 1) := by kernel_rfl
  cases hi : Tryz.prog.info? 5 with
  | none => rw [hi] at h; cases h
  | some i =>
    rw [hi] at h
    simp only [Option.map_some, Option.some.injEq, Prod.mk.injEq] at h
    exact ⟨i, rfl, h.1, h.2.1, h.2.2⟩
section
variable {w : World} {b : Nat} {t : TypeId} {s : ByteArray} {i : Nat}
theorem back_ok {R : Ending → World → Prop} {base : Nat} {l : Sl} {n : Nat} {x : List UInt8} (hn : n = x.length) (h : w.ownsRow base 5 1 (.slice l.a l.n l.c) n (byteCells x)) {k : ByteArray → G} (hk : k (bs x) R w) :
    opG Tryz.prog (convert 197 9 (.slice l.a l.n l.c)) (.one .str) k R w := by
  subst hn
  rcases h.2 with ⟨hv, hn⟩ | ⟨g, cap, cur, hv, _⟩
  · have hl : x = [] := List.eq_nil_of_length_eq_zero hn
    subst hl
    rw [hv]
    exact ⟨(ByteArray.empty, ()), w, run_convert_bytes_nil _ 197 5 uBytes uByte 0 0 9 us, hk⟩
  · have hc := h.cells (g := g) (by rw [hv]; rfl)
    rw [hv]
    refine ⟨(bs x, ()), w, run_convert_bytes_back _ 197 9 5 ⟨g, 0, none⟩ cap x uBytes uByte us (fun j hj => ?_), hk⟩
    exact hc j _ (by unfold byteCells; rw [List.getElem?_map, List.getElem?_eq_getElem hj]; rfl)
set_option maxHeartbeats 2000000 in
theorem quoted_ok {acc : List Tok} {e a : Int} (h : St w b s i acc e a) (hg : GlobB b w) (hs : s.size ≤ 1000000) (hi : i < s.size) :
    Calls Tryz.prog 145 #[.pointer (some ⟨b, 0, none⟩)] w fun en w' => match quotedL 1 ((bl s).drop (i + 1)) [] with
      | .ok (T, n) => en = .returned (.tuple #[.string (bs T), .bool true]) ∧ St w' b s (i + n) acc e a ∧ Fr (oneB b) w w'
      | .error f => en = .returned (.tuple #[.string ⟨#[]⟩, .bool false]) ∧ (∃ i', St w' b s i' acc (f.err : Int) ((i + f.at' : Nat) : Int)) ∧ Fr (oneB b) w w' := by
  have hsl := bl_length s
  obtain ⟨l, B, hown⟩ := h
  have hbw := B.lt
  apply c145
  unfold t145
  refine nn_ok (B.ld (o := 1) rfl (nn_ok (B.ld (o := 1) rfl (nn_ok (B.st (o := 1) rfl (by simp) fun w1 B1 F1 => ?_)))))
  have e1 : IntKind.wrap .i64 ((i : Int) + 1) = ((i + 1 : Nat) : Int) := by rw [wrap_ok (by omega) (by omega)]; omega
  have B1 : Blk w1 b 118 [.string s, .int .i64 ((i + 1 : Nat) : Int), .slice l.a l.n l.c, .int .i64 e, .int .i64 a] := by rw [← e1]; exact B1
  refine join0_ok (fun w' => quotedL 1 ((bl s).drop (i + 1)) [] = .error ⟨60, 0⟩ ∧ (∃ i' : Nat, Blk w' b 118 [.string s, .int .i64 (i' : Int), .slice l.a l.n l.c, .int .i64 e, .int .i64 a]) ∧ Fr (oneB b) w w') (fun kend hkend => ?_) ?_
  · refine loopN_ok (vs := [.one .slice]) (fun m xs w' => ∃ (j : Nat) (out : List UInt8), m = s.size - (i + j) ∧ Blk w' b 118 [.string s, .int .i64 ((i + j : Nat) : Int), .slice l.a l.n l.c, .int .i64 e, .int .i64 a] ∧ Fr (oneB b) w w' ∧
        w'.ownsRow w.heap.size 5 1 (.slice (show Sl from xs.1.1).a (show Sl from xs.1.1).n (show Sl from xs.1.1).c) out.length (byteCells out) ∧ i + j ≤ s.size ∧ out.length ≤ j ∧ quotedL 1 ((bl s).drop (i + 1)) [] = quotedL j ((bl s).drop (i + j)) out) ?_ (n := s.size - (i + 1)) (xs := (((⟨none, 0, 0⟩ : Sl), ()), ()))
      ⟨1, [], rfl, B1, F1, ⟨rfl, .inl ⟨rfl, rfl⟩⟩, by omega, by simp, rfl⟩
    rintro m rec ⟨⟨l8, ⟨⟩⟩, ⟨⟩⟩ w2 ⟨j, out, rfl, B2, F2, hO, hj, hol, hq⟩ hrec
    change Sl at l8
    change w2.ownsRow _ _ _ (.slice l8.a l8.n l8.c) _ _ at hO
    show joinG [.one .slice] _ _ _ _
    unfold joinG
    show nnG _ _ _ _
    refine nn_ok (callU8_ok (peek_ok (k := 0) B2 hs (by omega)) fun w3 F3 => ?_)
    have B3 := B2.fr F3 (fun h => h)
    have hO3 := own_fr0 hO F3
    have F23 := F2.then F3 fun _ _ h => h.elim
    have hneb := own_ne hO3 B3 (by decide)
    rw [Nat.add_zero]
    cases hrem : (bl s).drop (i + j) with
    | nil =>
      rw [drop_nil_getD hrem]
      exact ite_yes rfl (hkend _ ⟨by rw [hq, hrem]; rfl, ⟨_, B3⟩, F23⟩)
    | cons c r =>
      obtain ⟨hc, hdr, hlt⟩ := drop_cons_getD hrem
      rw [hsl] at hlt
      rw [hc]
      rw [hrem] at hq
      refine ite_ok (fun h32 => hkend _ ⟨?_, ⟨_, B3⟩, F23⟩) fun h32 => ?_
      · rw [hq]
        exact quotedL_low (by have : ((c.toNat : Nat) : Int) < 32 := of_decide_eq_true h32; omega)
      have h32 : ¬ ((c.toNat : Nat) : Int) < 32 := of_decide_eq_false h32
      rw [u8_lit c 34 (z := 34) rfl]
      by_cases h34 : c = 34
      · subst h34
        refine ite_yes rfl (nn_ok (B3.ld (o := 1) rfl (nn_ok (B3.st (o := 1) rfl (by simp) fun w4 B4 F4 => back_ok rfl (own_fr hO3 F4 fun k hk e => hneb k hk e.symm) ?_))))
        rw [hq, quotedL_end]
        refine ⟨rfl, ⟨l, ?_, own_one hown (F23.sq F4)⟩, F23.sq F4⟩
        have e2 : IntKind.wrap .i64 (((i + j : Nat) : Int) + 1) = ((i + (j + 1) : Nat) : Int) := by rw [wrap_ok (by omega) (by omega)]; omega
        rw [← e2]
        exact B4
      refine ite_no (beq_eq_false_iff_ne.2 h34) ?_
      rw [u8_lit c 92 (z := 92) rfl]
      by_cases h92 : c = 92
      · subst h92
        refine ite_yes rfl (nn_ok (callU8_ok (peek_ok (k := 1) B3 hs (by omega)) fun w4 F4 => ?_))
        have B4 := B3.fr F4 (fun h => h)
        have hO4 := own_fr0 hO3 F4
        have F24 := F23.then F4 fun _ _ h => h.elim
        generalize hx : (bl s).getD (i + j + 1) 0 = x
        have hix := Tryz.strings_IndexByte (bs [110, 116, 34, 92]) ((x.toNat : Nat) : Int) w4
        have ex : (((x.toNat : Nat) : Int).toNat.toUInt8) = x := by rw [Int.toNat_natCast]; exact UInt8.ofNat_toNat
        rw [ex] at hix
        refine callI_ok (n := Lib.indexByte [110, 116, 34, 92] x) (Y := fun w' => w' = w4) hix fun w5 hw => ?_
        subst hw
        rcases esc_at x with ⟨he, hk⟩ | ⟨k, hk4, hk, he⟩
        · rw [hk]
          refine ite_yes rfl (callB_ok (fail_ok B4 60 (i : Int)) fun w6 ⟨B6, F6⟩ => ?_)
          have : quotedL j (92 :: r) out = .error ⟨60, 0⟩ := by
            cases r with
            | nil => rfl
            | cons y r =>
              have : (bl s).getD (i + j + 1) 0 = y := (drop_cons_getD hdr).1
              rw [hx] at this
              subst this
              rw [quotedL_esc, he]
          rw [hq, this]
          exact ⟨rfl, ⟨i + j, l, B6, own_one hown (F24.sq F6)⟩, F24.sq F6⟩
        · rw [hk]
          have hr : ∃ r', r = x :: r' := by
            cases r with
            | nil =>
              have := drop_nil_getD hdr
              rw [hx] at this
              subst this
              rw [show esc 0 = none from rfl] at he
              cases he
            | cons y r =>
              have : (bl s).getD (i + j + 1) 0 = y := (drop_cons_getD hdr).1
              rw [hx] at this
              subst this
              exact ⟨r, rfl⟩
          obtain ⟨r', rfl⟩ := hr
          have hdr2 := (drop_cons_getD hdr).2.1
          have hlt2 := (drop_cons_getD hdr).2.2
          rw [hsl] at hlt2
          rw [quotedL_esc, he] at hq
          refine ite_no (by simp) (chr_ok (s := bs [10, 9, 34, 92]) (i := k) hk4 ?_)
          have ey : (bl (bs [10, 9, 34, 92]))[k]'(by rw [bl_length]; exact hk4) = [10, 9, 34, 92].getD k 0 := by
            rw [List.getD_eq_getElem?_getD, List.getElem?_eq_getElem (by exact hk4)]
            rfl
          rw [ey]
          simp only [] at hq
          generalize [10, 9, 34, 92].getD k (0 : UInt8) = y at *
          refine new_ok fun w6 m22 hm hs6 B22 F6 => ?_
          have B6 := B4.fr F6 (fun h => h)
          have hO6 := own_fr0 hO4 F6
          have F26 := F24.then F6 fun _ _ h => h.elim
          obtain ⟨ti, z, hti, hz, h1, h2, h3⟩ := rByte
          refine appendB_ok uBytes hti hz h1 h2 (by rw [h3]; rfl) (by omega) (s := l8) hO6 (m := 1) (news := [.int .u8 ((y.toNat : Nat) : Int)]) rfl (B22.held fun j v hj => by rw [Nat.zero_add]; exact hj) (fun u hu => by rw [List.mem_singleton.1 hu]; rfl) (by unfold maxLen; omega) (by omega) (F26.size) fun l23 w7 hO7 F7 => ?_
          have B7 := B6.fr F7 (by omega)
          have F27 := F26.then F7 fun y hy h => by omega
          refine nn_ok (B7.ld (o := 1) rfl (nn_ok (B7.st (o := 1) rfl (by simp) fun w8 B8 F8 => hrec (s.size - (i + (j + 2))) ((l23, ()), ()) w8 (by omega) ⟨j + 2, out ++ [y], rfl, ?_, F27.sq F8, ?_, by omega, by simp; omega, ?_⟩)))
          · have e2 : IntKind.wrap .i64 (((i + j : Nat) : Int) + 2) = ((i + (j + 2) : Nat) : Int) := by rw [wrap_ok (by omega) (by omega)]; omega
            rw [← e2]
            exact B8
          · have hneb7 := own_ne hO7 B7 (by decide)
            have := own_fr hO7 F8 fun k hk e => hneb7 k hk e.symm
            simpa [byteCells] using this
          · rw [hq, ← hdr2]
            rfl
      refine ite_no (beq_eq_false_iff_ne.2 h92) (nn_ok (callS_ok (while_ok B3 hs (by omega) pred_inText) fun w4 ⟨B4, F4⟩ => drew_ok fun w5 F5 z5 => ?_))
      have hin : inText c = true := by unfold inText; rw [decide_eq_true (by omega)]; simp [h34, h92]
      have hTD : (c :: r).takeWhile inText ++ (c :: r).dropWhile inText = c :: r := List.takeWhile_append_dropWhile
      have hTlen : 1 ≤ ((c :: r).takeWhile inText).length := by rw [List.takeWhile_cons, hin]; simp
      have hall : ∀ x ∈ (c :: r).takeWhile inText, 32 ≤ x.toNat ∧ x ≠ 34 ∧ x ≠ 92 := fun x hx => by
        have := List.all_eq_true.1 (List.all_takeWhile (p := inText) (l := c :: r)) x hx
        unfold inText at this
        simpa [and_assoc] using this
      have hstop : ∀ x, ((c :: r).dropWhile inText).head? = some x → x.toNat < 128 := fun x hx => by
        have := List.head?_dropWhile_not inText (c :: r)
        rw [hx] at this
        simp only [inText] at this
        by_cases h1 : x = 34
        · subst h1; decide
        by_cases h2 : x = 92
        · subst h2; decide
        have h3 : ¬ 32 ≤ x.toNat := by
          intro h3
          rw [decide_eq_true h3] at this
          simp [h1, h2] at this
        omega
      rw [hrem] at B4 ⊢
      generalize (c :: r).takeWhile inText = T at *
      generalize (c :: r).dropWhile inText = D at *
      have hlen : T.length + D.length = s.size - (i + j) := by
        rw [← List.length_append, hTD, ← hrem, List.length_drop, hsl]
      have B5 := B4.fr F5 (fun h => h)
      have hO5 := own_fr0 (own_fr hO3 F4 fun k hk e => hneb k hk e.symm) F5
      have F25 := (F23.sq F4).then F5 fun _ _ h => h.elim
      refine nn_ok (B5.ld (o := 1) rfl (nn_ok (B5.ld (o := 1) rfl ?_)))
      have eT : IntKind.wrap .i64 (((i + j + T.length : Nat) : Int) - ((bs T).size : Int)) = ((i + j : Nat) : Int) := by rw [bs_size, wrap_ok (by omega) (by omega)]; omega
      rw [eT]
      refine call_ok (whole_ok (i := i + j) (j := i + j + T.length) B5 (hg.fr F25.one).glob hs (by omega) (by omega)) ?_
      intro en w6 hpost
      have etk : ((bl s).drop (i + j)).take (i + j + T.length - (i + j)) = T := by rw [hrem, Nat.add_sub_cancel_left, ← hTD]; simp
      rw [etk] at hpost
      rw [← hTD, quotedL_run T.length T D out j (Nat.le_refl _) hall hstop] at hq
      cases hu : utfBad T with
      | some k =>
        rw [hu] at hpost hq
        obtain ⟨rfl, B6, F6⟩ := hpost
        refine ⟨((false, ()), ()), rfl, ?_⟩
        rw [hq]
        refine ⟨rfl, ⟨i + j + T.length, l, ?_, own_one hown (F25.sq F6)⟩, F25.sq F6⟩
        rw [show i + (j + k) = i + j + k by omega]
        exact B6
      | none =>
        rw [hu] at hpost hq
        obtain ⟨rfl, F6⟩ := hpost
        refine ⟨((true, ()), ()), rfl, ?_⟩
        have B6 := B5.fr F6 (fun h => h)
        have hO6 := own_fr0 hO5 F6
        have F26 := F25.then F6 fun _ _ h => h.elim
        obtain ⟨ti, hti, hz, h1, h2⟩ := rByte'
        have hTs := bs_size T
        refine appendSB_ok uBytes us hti hz h1 h2 (s := l8) hO6 (bs T) (by unfold maxLen; omega) (by omega) (F26.size) fun l35 w7 hO7 F7 => ?_
        have B7 := B6.fr F7 (by omega)
        have F27 := F26.then F7 fun y hy h => by omega
        refine hrec (s.size - (i + (j + T.length))) ((l35, ()), ()) w7 (by omega) ⟨j + T.length, out ++ T, rfl, ?_, F27, ?_, by omega, by rw [List.length_append]; omega, ?_⟩
        · rw [← Nat.add_assoc]
          exact B7
        · rw [List.length_append, ← hTs]
          have : byteCells (out ++ T) = byteCells out ++ Go.Lib.strCells (bs T) := by simp [byteCells, Go.Lib.strCells, bs]
          rw [this]
          exact hO7
        · rw [hq, ← Nat.add_assoc, ← List.drop_drop, hrem, ← hTD]
          simp
  · rintro w2 ⟨hq, ⟨i', B2⟩, F2⟩
    refine callB_ok (fail_ok B2 60 (i : Int)) fun w3 ⟨B3, F3⟩ => ?_
    rw [hq]
    exact ⟨rfl, ⟨i', l, B3, own_one hown (F2.sq F3)⟩, F2.sq F3⟩
end
end Go.Proofs.YticokfpaoiekgaaGreatDoor
end
section
namespace Go.Lex
open Go.Lib
theorem index_tw (c : UInt8) : ∀ s : B, (indexByte s c = -1 ∧ s.takeWhile (· != c) = s) ∨ ∃ i : Nat, indexByte s c = i ∧ i < s.length ∧ s.takeWhile (· != c) = s.take i ∧ s.drop i = c :: s.drop (i + 1)
  | [] => .inl ⟨rfl, rfl⟩
  | b :: l => by
    by_cases h : b = c
    · subst h
      exact .inr ⟨0, by simp [indexByte], by simp, by simp, rfl⟩
    · have hb : (b != c) = true := by simpa using h
      rcases index_tw c l with ⟨h1, h2⟩ | ⟨i, h1, h2, h3, h4⟩
      · refine .inl ⟨by simp [indexByte, h, h1], ?_⟩
        rw [List.takeWhile_cons, hb, if_pos rfl, h2]
      · refine .inr ⟨i + 1, ?_, by simpa using h2, ?_, ?_⟩
        · have e : ((i : Int) == -1) = false := by rw [beq_eq_false_iff_ne]; omega
          have hbc : (b == c) = false := by simpa using h
          simp only [indexByte, hbc, h1, e, Bool.false_eq_true, if_false]
          omega
        · rw [List.takeWhile_cons, hb, if_pos rfl, h3, List.take_succ_cons]
        · simpa using h4
theorem cut_tw (s : B) (c : UInt8) : cut s [c] = (s.takeWhile (· != c), (s.drop (s.takeWhile (· != c)).length).tail, !(s.drop (s.takeWhile (· != c)).length).isEmpty) := by
  unfold cut
  rw [index_one]
  rcases index_tw c s with ⟨h1, h2⟩ | ⟨i, h1, h2, h3, h4⟩
  · rw [h1, if_neg (by decide), h2, List.drop_length]
    rfl
  · rw [h1, if_pos (by omega), h3, List.length_take, Nat.min_eq_left (by omega), h4, Int.toNat_natCast]
    rfl
theorem parts_cut : ∀ s : B, (indexByte s 46 = -1 → parts s = [s]) ∧ ∀ i : Nat, indexByte s 46 = i → parts s = s.take i :: parts (s.drop (i + 1))
  | [] => ⟨fun _ => rfl, fun i h => by simp [indexByte] at h⟩
  | b :: l => by
    obtain ⟨ih1, ih2⟩ := parts_cut l
    by_cases h : b = 46
    · subst h
      refine ⟨fun e => by simp [indexByte] at e, fun i e => ?_⟩
      have : i = 0 := by simp [indexByte] at e; omega
      subst this
      simp [parts]
    · have hb : (b == 46) = false := by simpa using h
      have hge := indexByte_ge l 46
      constructor
      · intro e
        have e1 : indexByte l 46 = -1 := by
          simp only [indexByte, hb, Bool.false_eq_true, if_false] at e
          split at e
          · rename_i h2; exact beq_iff_eq.1 h2
          · rename_i h2
            have h2 : ¬ indexByte l 46 = -1 := by simpa using h2
            omega
        unfold parts
        rw [if_neg h, ih1 e1]
      · intro i e
        simp only [indexByte, hb, Bool.false_eq_true, if_false] at e
        split at e
        · omega
        · rename_i h2
          have h2 : ¬ indexByte l 46 = -1 := by simpa using h2
          obtain ⟨k, rfl⟩ : ∃ k, i = k + 1 := ⟨i - 1, by omega⟩
          conv => lhs; unfold parts
          rw [if_neg h, ih2 k (by omega)]
          simp
theorem split_parts : ∀ (n : Nat) (s : B), s.length ≤ n → splitK [46] 0 (count s [46]) s = parts s ∧ count s [46] + 1 = (parts s).length
  | n, s, hn => by
    have hge := index_one s 46
    rcases index_tw 46 s with ⟨h1, _⟩ | ⟨i, h1, h2, _, _⟩
    · rw [count_miss (by rw [hge, h1]), (parts_cut s).1 h1]
      exact ⟨rfl, rfl⟩
    · cases n with
      | zero => omega
      | succ n =>
        obtain ⟨ih1, ih2⟩ := split_parts n (s.drop (i + 1)) (by rw [List.length_drop]; omega)
        rw [count_hit (i := i) (by simp) (by rw [hge, h1]), (parts_cut s).2 i h1, Nat.add_comm 1]
        refine ⟨?_, congrArg (· + 1) ih2⟩
        have e : (index s [46] == -1) = false := by rw [hge, h1, beq_eq_false_iff_ne]; omega
        unfold splitK
        rw [e, hge, h1]
        simp only [Bool.false_eq_true, if_false, Int.toNat_natCast, Nat.add_zero]
        rw [← ih1]
        rfl
theorem parts_len : ∀ s : B, (parts s).length ≤ s.length + 1
  | [] => Nat.le_refl _
  | c :: r => by
    have := parts_len r
    unfold parts
    split
    · simp only [List.length_cons]; omega
    · split
      · rename_i h; rw [h] at this; simp only [List.length_cons] at *; omega
      · simp
theorem parts_each : ∀ {s : B} (x : B), x ∈ parts s → x.length ≤ s.length
  | [], x, h => by simp [parts] at h; simp [h]
  | c :: r, x, h => by
    have ih := fun y => parts_each (s := r) y
    unfold parts at h
    split at h
    · rcases List.mem_cons.1 h with rfl | h
      · simp
      · have := ih x h; simp only [List.length_cons]; omega
    · split at h
      · rename_i p ps hp
        rcases List.mem_cons.1 h with rfl | h
        · have := ih p (by rw [hp]; simp); simp only [List.length_cons]; omega
        · have := ih x (by rw [hp]; simp [h]); simp only [List.length_cons]; omega
      · simp only [List.mem_singleton] at h; subst h; simp
theorem decFrom_digits : ∀ (l : B) (acc : Nat), l.all digit = true → ∃ v, decFrom acc l = some v ∧ v + 1 ≤ (acc + 1) * 10 ^ l.length
  | [], acc, _ => ⟨acc, rfl, by simp⟩
  | b :: l, acc, h => by
    simp only [List.all_cons, Bool.and_eq_true] at h
    have hb := of_decide_eq_true h.1
    obtain ⟨v, h1, h2⟩ := decFrom_digits l (acc * 10 + (b.toNat - 48)) h.2
    refine ⟨v, by unfold decFrom digitVal; rw [if_pos hb]; exact h1, Nat.le_trans h2 ?_⟩
    rw [List.length_cons, Nat.pow_succ, Nat.mul_comm (10 ^ l.length) 10, ← Nat.mul_assoc]
    exact Nat.mul_le_mul_right _ (by omega)
theorem atoi_digits {l : B} (h : digits l = true) (h6 : l.length ≤ 6) : ∃ v : Nat, atoi l = some (v : Int) ∧ v ≤ 999999 := by
  unfold digits at h
  cases l with
  | nil => simp at h
  | cons b r =>
    simp only [List.isEmpty_cons, Bool.not_false, Bool.true_and] at h
    obtain ⟨v, h1, h2⟩ := decFrom_digits (b :: r) 0 h
    have hb : digit b = true := by simp only [List.all_cons, Bool.and_eq_true] at h; exact h.1
    have hd := of_decide_eq_true hb
    have n45 : (b == 45) = false := by rw [beq_eq_false_iff_ne]; rintro rfl; revert hd; decide
    have n43 : (b == 43) = false := by rw [beq_eq_false_iff_ne]; rintro rfl; revert hd; decide
    refine ⟨v, ?_, ?_⟩
    · unfold atoi
      simp only [n45, n43, Bool.false_eq_true, if_false, decNat, List.isEmpty_cons]
      rw [h1]
      rfl
    · have : 10 ^ (b :: r).length ≤ 10 ^ 6 := Nat.pow_le_pow_right (by omega) h6
      omega
def preAll (p : B) : Bool := p.isEmpty || (decide (p.length ≤ 24) && (parts p).all preOk)
theorem verOk_eq (s : B) : verOk s = (decide ((parts (s.takeWhile (· != 45))).length = 3) && (parts (s.takeWhile (· != 45))).all numOk && ((s.drop (s.takeWhile (· != 45)).length).isEmpty || !(s.drop (s.takeWhile (· != 45)).length).tail.isEmpty) && preAll (s.drop (s.takeWhile (· != 45)).length).tail) := by
  unfold verOk preAll
  simp only []
  generalize s.takeWhile (· != 45) = core
  cases s.drop core.length with
  | nil => simp
  | cons d pre => cases pre <;> simp [Bool.and_assoc]
end Go.Lex
end
