/- A quoted text, read. No condition. -/
import Derived.Test.YthnfcbjfmghomaaGreatDoorLexE
namespace Go.Lex
theorem esc_at (e : UInt8) : (esc e = none ∧ Lib.indexByte [110, 116, 34, 92] e = -1) ∨ ∃ k : Nat, k < 4 ∧ Lib.indexByte [110, 116, 34, 92] e = (k : Int) ∧ esc e = some ([10, 9, 34, 92].getD k 0) := by
  by_cases h1 : e = 110
  · subst h1; exact .inr ⟨0, by decide, by decide, by decide⟩
  by_cases h2 : e = 116
  · subst h2; exact .inr ⟨1, by decide, by decide, by decide⟩
  by_cases h3 : e = 34
  · subst h3; exact .inr ⟨2, by decide, by decide, by decide⟩
  by_cases h4 : e = 92
  · subst h4; exact .inr ⟨3, by decide, by decide, by decide⟩
  refine .inl ⟨by unfold esc; rw [if_neg h1, if_neg h2, if_neg h3, if_neg h4], ?_⟩
  have e1 : ¬ (110 : UInt8) = e := fun h => h1 h.symm
  have e2 : ¬ (116 : UInt8) = e := fun h => h2 h.symm
  have e3 : ¬ (34 : UInt8) = e := fun h => h3 h.symm
  have e4 : ¬ (92 : UInt8) = e := fun h => h4 h.symm
  simp [Lib.indexByte, e1, e2, e3, e4]
theorem drop_nil_getD {l : B} {n : Nat} (h : l.drop n = []) : l.getD n 0 = 0 := by
  rw [List.getD_eq_getElem?_getD, List.getElem?_eq_none (List.drop_eq_nil_iff.1 h)]
  rfl
theorem drop_cons_getD {l r : B} {c : UInt8} {n : Nat} (h : l.drop n = c :: r) : l.getD n 0 = c ∧ l.drop (n + 1) = r ∧ n < l.length := by
  have hn : n < l.length := by
    have := congrArg List.length h
    rw [List.length_drop, List.length_cons] at this
    omega
  have e := List.drop_eq_getElem_cons hn
  rw [e] at h
  cases h
  refine ⟨?_, rfl, hn⟩
  rw [List.getD_eq_getElem?_getD, List.getElem?_eq_getElem hn]
  rfl
end Go.Lex
namespace Go.Proofs.YthnfcbjfmghomaaGreatDoor
open Go.Lift Go.Lex
theorem uBytes : Tryz.prog.underlying 80 = some (.slice 5) := by kernel_rfl
theorem uByte : Tryz.prog.underlying 5 = some (.int .u8) := by kernel_rfl
theorem rByte : rowSays Tryz.prog 5 1 1 #[.int .u8 0] := rowSays_of (by kernel_rfl)
theorem rByte' : ∃ i, Tryz.prog.info? 5 = some i ∧ i.zero = some (.int .u8 0) ∧ i.size = 1 ∧ i.bytes = 1 := by
  have h : (Tryz.prog.info? 5).map (fun i => (i.zero, i.size, i.bytes)) = some (some (.int .u8 0), 1, 1) := by kernel_rfl
  cases hi : Tryz.prog.info? 5 with
  | none => rw [hi] at h; cases h
  | some i =>
    rw [hi] at h
    simp only [Option.map_some, Option.some.injEq, Prod.mk.injEq] at h
    exact ⟨i, rfl, h.1, h.2.1, h.2.2⟩
section
variable {w : World} {b : Nat} {t : TypeId} {s : ByteArray} {i : Nat}
theorem back_ok {R : Ending → World → Prop} {base : Nat} {l : Sl} {n : Nat} {x : List UInt8} (hn : n = x.length) (h : w.ownsRow base 5 1 (.slice l.a l.n l.c) n (byteCells x)) {k : ByteArray → G} (hk : k (bs x) R w) :
    opG Tryz.prog (convert 80 9 (.slice l.a l.n l.c)) (.one .str) k R w := by
  subst hn
  rcases h.2 with ⟨hv, hn⟩ | ⟨g, cap, cur, hv, _⟩
  · have hl : x = [] := List.eq_nil_of_length_eq_zero hn
    subst hl
    rw [hv]
    exact ⟨(ByteArray.empty, ()), w, run_convert_bytes_nil _ 80 5 uBytes uByte 0 0 9 us, hk⟩
  · have hc := h.cells (g := g) (by rw [hv]; rfl)
    rw [hv]
    refine ⟨(bs x, ()), w, run_convert_bytes_back _ 80 9 5 ⟨g, 0, none⟩ cap x uBytes uByte us (fun j hj => ?_), hk⟩
    exact hc j _ (by unfold byteCells; rw [List.getElem?_map, List.getElem?_eq_getElem hj]; rfl)

set_option maxHeartbeats 2000000 in
theorem quoted_ok {acc : List Tok} {e a : Int} (h : St w b s i acc e a) (hg : GlobB b w) (hs : s.size ≤ 1000000) (hi : i < s.size) :
    Calls Tryz.prog 52 #[.pointer (some ⟨b, 0, none⟩)] w fun en w' => match quotedL 1 ((bl s).drop (i + 1)) [] with
      | .ok (T, n) => en = .returned (.tuple #[.string (bs T), .bool true]) ∧ St w' b s (i + n) acc e a ∧ Fr (oneB b) w w'
      | .error f => en = .returned (.tuple #[.string ⟨#[]⟩, .bool false]) ∧ (∃ i', St w' b s i' acc (f.err : Int) ((i + f.at' : Nat) : Int)) ∧ Fr (oneB b) w w' := by
  have hsl := bl_length s
  obtain ⟨l, B, hown⟩ := h
  have hbw := B.lt
  apply c52
  unfold t52
  refine nn_ok (B.ld (o := 1) rfl (nn_ok (B.ld (o := 1) rfl (nn_ok (B.st (o := 1) rfl (by simp) fun w1 B1 F1 => ?_)))))
  have e1 : IntKind.wrap .i64 ((i : Int) + 1) = ((i + 1 : Nat) : Int) := by rw [wrap_ok (by omega) (by omega)]; omega
  have B1 : Blk w1 b 48 [.string s, .int .i64 ((i + 1 : Nat) : Int), .slice l.a l.n l.c, .int .i64 e, .int .i64 a] := by rw [← e1]; exact B1
  refine join0_ok (fun w' => quotedL 1 ((bl s).drop (i + 1)) [] = .error ⟨60, 0⟩ ∧ (∃ i' : Nat, Blk w' b 48 [.string s, .int .i64 (i' : Int), .slice l.a l.n l.c, .int .i64 e, .int .i64 a]) ∧ Fr (oneB b) w w') (fun kend hkend => ?_) ?_
  · refine loopN_ok (vs := [.one .slice]) (fun m xs w' => ∃ (j : Nat) (out : List UInt8), m = s.size - (i + j) ∧ Blk w' b 48 [.string s, .int .i64 ((i + j : Nat) : Int), .slice l.a l.n l.c, .int .i64 e, .int .i64 a] ∧ Fr (oneB b) w w' ∧
        w'.ownsRow w.heap.size 5 1 (.slice (show Sl from xs.1.1).a (show Sl from xs.1.1).n (show Sl from xs.1.1).c) out.length (byteCells out) ∧ i + j ≤ s.size ∧ out.length ≤ j ∧ quotedL 1 ((bl s).drop (i + 1)) [] = quotedL j ((bl s).drop (i + j)) out) ?_ (n := s.size - (i + 1)) (xs := (((⟨none, 0, 0⟩ : Sl), ()), ()))
      ⟨1, [], rfl, B1, F1, ⟨rfl, .inl ⟨rfl, rfl⟩⟩, by omega, by simp, rfl⟩
    rintro m rec ⟨⟨l8, ⟨⟩⟩, ⟨⟩⟩ w2 ⟨j, out, rfl, B2, F2, hO, hj, hol, hq⟩ hrec
    change Sl at l8
    change w2.ownsRow _ _ _ (.slice l8.a l8.n l8.c) _ _ at hO
    show joinG [.one .slice] _ _ _ _
    unfold joinG
    show nnG _ _ _ _
    refine nn_ok (callU8_ok (peek_ok (k := 0) B2 hs (by omega)) fun w3 F3 => ?_)
    have B3 := B2.fr F3 (fun h => h)
    have hO3 := own_fr0 hO F3
    have F23 := F2.then F3 fun _ _ h => h.elim
    have hneb := own_ne hO3 B3 (by decide)
    rw [Nat.add_zero]
    cases hrem : (bl s).drop (i + j) with
    | nil =>
      rw [drop_nil_getD hrem]
      exact ite_yes rfl (hkend _ ⟨by rw [hq, hrem]; rfl, ⟨_, B3⟩, F23⟩)
    | cons c r =>
      obtain ⟨hc, hdr, hlt⟩ := drop_cons_getD hrem
      rw [hsl] at hlt
      rw [hc]
      rw [hrem] at hq
      refine ite_ok (fun h32 => hkend _ ⟨?_, ⟨_, B3⟩, F23⟩) fun h32 => ?_
      · rw [hq]
        exact quotedL_low (by have : ((c.toNat : Nat) : Int) < 32 := of_decide_eq_true h32; omega)
      have h32 : ¬ ((c.toNat : Nat) : Int) < 32 := of_decide_eq_false h32
      rw [u8_lit c 34 (z := 34) rfl]
      by_cases h34 : c = 34
      · subst h34
        refine ite_yes rfl (nn_ok (B3.ld (o := 1) rfl (nn_ok (B3.st (o := 1) rfl (by simp) fun w4 B4 F4 => back_ok rfl (own_fr hO3 F4 fun k hk e => hneb k hk e.symm) ?_))))
        rw [hq, quotedL_end]
        refine ⟨rfl, ⟨l, ?_, own_one hown (F23.sq F4)⟩, F23.sq F4⟩
        have e2 : IntKind.wrap .i64 (((i + j : Nat) : Int) + 1) = ((i + (j + 1) : Nat) : Int) := by rw [wrap_ok (by omega) (by omega)]; omega
        rw [← e2]
        exact B4
      refine ite_no (beq_eq_false_iff_ne.2 h34) ?_
      rw [u8_lit c 92 (z := 92) rfl]
      by_cases h92 : c = 92
      · subst h92
        refine ite_yes rfl (nn_ok (callU8_ok (peek_ok (k := 1) B3 hs (by omega)) fun w4 F4 => ?_))
        have B4 := B3.fr F4 (fun h => h)
        have hO4 := own_fr0 hO3 F4
        have F24 := F23.then F4 fun _ _ h => h.elim
        generalize hx : (bl s).getD (i + j + 1) 0 = x
        have hix := Tryz.strings_IndexByte (bs [110, 116, 34, 92]) ((x.toNat : Nat) : Int) w4
        have ex : (((x.toNat : Nat) : Int).toNat.toUInt8) = x := by rw [Int.toNat_natCast]; exact UInt8.ofNat_toNat
        rw [ex] at hix
        refine callI_ok (n := Lib.indexByte [110, 116, 34, 92] x) (Y := fun w' => w' = w4) hix fun w5 hw => ?_
        subst hw
        rcases esc_at x with ⟨he, hk⟩ | ⟨k, hk4, hk, he⟩
        · rw [hk]
          refine ite_yes rfl (callB_ok (fail_ok B4 60 (i : Int)) fun w6 ⟨B6, F6⟩ => ?_)
          have : quotedL j (92 :: r) out = .error ⟨60, 0⟩ := by
            cases r with
            | nil => rfl
            | cons y r =>
              have : (bl s).getD (i + j + 1) 0 = y := (drop_cons_getD hdr).1
              rw [hx] at this
              subst this
              rw [quotedL_esc, he]
          rw [hq, this]
          exact ⟨rfl, ⟨i + j, l, B6, own_one hown (F24.sq F6)⟩, F24.sq F6⟩
        · rw [hk]
          have hr : ∃ r', r = x :: r' := by
            cases r with
            | nil =>
              have := drop_nil_getD hdr
              rw [hx] at this
              subst this
              rw [show esc 0 = none from rfl] at he
              cases he
            | cons y r =>
              have : (bl s).getD (i + j + 1) 0 = y := (drop_cons_getD hdr).1
              rw [hx] at this
              subst this
              exact ⟨r, rfl⟩
          obtain ⟨r', rfl⟩ := hr
          have hdr2 := (drop_cons_getD hdr).2.1
          have hlt2 := (drop_cons_getD hdr).2.2
          rw [hsl] at hlt2
          rw [quotedL_esc, he] at hq
          refine ite_no (by simp) (chr_ok (s := bs [10, 9, 34, 92]) (i := k) hk4 ?_)
          have ey : (bl (bs [10, 9, 34, 92]))[k]'(by rw [bl_length]; exact hk4) = [10, 9, 34, 92].getD k 0 := by
            rw [List.getD_eq_getElem?_getD, List.getElem?_eq_getElem (by exact hk4)]
            rfl
          rw [ey]
          simp only [] at hq
          generalize [10, 9, 34, 92].getD k (0 : UInt8) = y at *
          refine new_ok fun w6 m22 hm hs6 B22 F6 => ?_
          have B6 := B4.fr F6 (fun h => h)
          have hO6 := own_fr0 hO4 F6
          have F26 := F24.then F6 fun _ _ h => h.elim
          obtain ⟨ti, z, hti, hz, h1, h2, h3⟩ := rByte
          refine appendB_ok uBytes hti hz h1 h2 (by rw [h3]; rfl) (by omega) (s := l8) hO6 (m := 1) (news := [.int .u8 ((y.toNat : Nat) : Int)]) rfl (B22.held fun j v hj => by rw [Nat.zero_add]; exact hj) (fun u hu => by rw [List.mem_singleton.1 hu]; rfl) (by unfold maxLen; omega) (by omega) (F26.size) fun l23 w7 hO7 F7 => ?_
          have B7 := B6.fr F7 (by omega)
          have F27 := F26.then F7 fun y hy h => by omega
          refine nn_ok (B7.ld (o := 1) rfl (nn_ok (B7.st (o := 1) rfl (by simp) fun w8 B8 F8 => hrec (s.size - (i + (j + 2))) ((l23, ()), ()) w8 (by omega) ⟨j + 2, out ++ [y], rfl, ?_, F27.sq F8, ?_, by omega, by simp; omega, ?_⟩)))
          · have e2 : IntKind.wrap .i64 (((i + j : Nat) : Int) + 2) = ((i + (j + 2) : Nat) : Int) := by rw [wrap_ok (by omega) (by omega)]; omega
            rw [← e2]
            exact B8
          · have hneb7 := own_ne hO7 B7 (by decide)
            have := own_fr hO7 F8 fun k hk e => hneb7 k hk e.symm
            simpa [byteCells] using this
          · rw [hq, ← hdr2]
            rfl
      refine ite_no (beq_eq_false_iff_ne.2 h92) (nn_ok (callS_ok (while_ok B3 hs (by omega) pred_inText) fun w4 ⟨B4, F4⟩ => drew_ok fun w5 F5 z5 => ?_))
      have hin : inText c = true := by unfold inText; rw [decide_eq_true (by omega)]; simp [h34, h92]
      have hTD : (c :: r).takeWhile inText ++ (c :: r).dropWhile inText = c :: r := List.takeWhile_append_dropWhile
      have hTlen : 1 ≤ ((c :: r).takeWhile inText).length := by rw [List.takeWhile_cons, hin]; simp
      have hall : ∀ x ∈ (c :: r).takeWhile inText, 32 ≤ x.toNat ∧ x ≠ 34 ∧ x ≠ 92 := fun x hx => by
        have := List.all_eq_true.1 (List.all_takeWhile (p := inText) (l := c :: r)) x hx
        unfold inText at this
        simpa [and_assoc] using this
      have hstop : ∀ x, ((c :: r).dropWhile inText).head? = some x → x.toNat < 128 := fun x hx => by
        have := List.head?_dropWhile_not inText (c :: r)
        rw [hx] at this
        simp only [inText] at this
        by_cases h1 : x = 34
        · subst h1; decide
        by_cases h2 : x = 92
        · subst h2; decide
        have h3 : ¬ 32 ≤ x.toNat := by
          intro h3
          rw [decide_eq_true h3] at this
          simp [h1, h2] at this
        omega
      rw [hrem] at B4 ⊢
      generalize (c :: r).takeWhile inText = T at *
      generalize (c :: r).dropWhile inText = D at *
      have hlen : T.length + D.length = s.size - (i + j) := by
        rw [← List.length_append, hTD, ← hrem, List.length_drop, hsl]
      have B5 := B4.fr F5 (fun h => h)
      have hO5 := own_fr0 (own_fr hO3 F4 fun k hk e => hneb k hk e.symm) F5
      have F25 := (F23.sq F4).then F5 fun _ _ h => h.elim
      refine nn_ok (B5.ld (o := 1) rfl (nn_ok (B5.ld (o := 1) rfl ?_)))
      have eT : IntKind.wrap .i64 (((i + j + T.length : Nat) : Int) - ((bs T).size : Int)) = ((i + j : Nat) : Int) := by rw [bs_size, wrap_ok (by omega) (by omega)]; omega
      rw [eT]
      refine call_ok (whole_ok (i := i + j) (j := i + j + T.length) B5 (hg.fr F25.one).glob hs (by omega) (by omega)) ?_
      intro en w6 hpost
      have etk : ((bl s).drop (i + j)).take (i + j + T.length - (i + j)) = T := by rw [hrem, Nat.add_sub_cancel_left, ← hTD]; simp
      rw [etk] at hpost
      rw [← hTD, quotedL_run T.length T D out j (Nat.le_refl _) hall hstop] at hq
      cases hu : utfBad T with
      | some k =>
        rw [hu] at hpost hq
        obtain ⟨rfl, B6, F6⟩ := hpost
        refine ⟨((false, ()), ()), rfl, ?_⟩
        rw [hq]
        refine ⟨rfl, ⟨i + j + T.length, l, ?_, own_one hown (F25.sq F6)⟩, F25.sq F6⟩
        rw [show i + (j + k) = i + j + k by omega]
        exact B6
      | none =>
        rw [hu] at hpost hq
        obtain ⟨rfl, F6⟩ := hpost
        refine ⟨((true, ()), ()), rfl, ?_⟩
        have B6 := B5.fr F6 (fun h => h)
        have hO6 := own_fr0 hO5 F6
        have F26 := F25.then F6 fun _ _ h => h.elim
        obtain ⟨ti, hti, hz, h1, h2⟩ := rByte'
        have hTs := bs_size T
        refine appendSB_ok uBytes us hti hz h1 h2 (s := l8) hO6 (bs T) (by unfold maxLen; omega) (by omega) (F26.size) fun l35 w7 hO7 F7 => ?_
        have B7 := B6.fr F7 (by omega)
        have F27 := F26.then F7 fun y hy h => by omega
        refine hrec (s.size - (i + (j + T.length))) ((l35, ()), ()) w7 (by omega) ⟨j + T.length, out ++ T, rfl, ?_, F27, ?_, by omega, by rw [List.length_append]; omega, ?_⟩
        · rw [← Nat.add_assoc]
          exact B7
        · rw [List.length_append, ← hTs]
          have : byteCells (out ++ T) = byteCells out ++ Go.Lib.strCells (bs T) := by simp [byteCells, Go.Lib.strCells, bs]
          rw [this]
          exact hO7
        · rw [hq, ← Nat.add_assoc, ← List.drop_drop, hrem, ← hTD]
          simp
  · rintro w2 ⟨hq, ⟨i', B2⟩, F2⟩
    refine callB_ok (fail_ok B2 60 (i : Int)) fun w3 ⟨B3, F3⟩ => ?_
    rw [hq]
    exact ⟨rfl, ⟨i', l, B3, own_one hown (F2.sq F3)⟩, F2.sq F3⟩
end
end Go.Proofs.YthnfcbjfmghomaaGreatDoor
