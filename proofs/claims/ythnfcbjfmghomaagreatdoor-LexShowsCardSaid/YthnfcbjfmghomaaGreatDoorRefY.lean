/- The document's tokens: numbers, quoted texts, blanks, a first token. No condition. -/
import Derived.Test.YthnfcbjfmghomaaGreatDoorRefX
import Derived.Test.YthnfcbjfmghomaaGreatDoorScan
namespace Go.Lex
/-- blanks and one remark ahead -/
def passedS (s : B) : Except Fault Nat :=
  let n := (s.takeWhile blank).length
  match s.drop n with
  | 45 :: 45 :: r => match utfBad (comment (45 :: 45 :: r)) with
    | some k => .error ⟨30, n + k⟩
    | none => .ok (n + (comment (45 :: 45 :: r)).length)
  | _ => .ok n
end Go.Lex
namespace Go.Proofs.YthnfcbjfmghomaaGreatDoor
open Go.Lift Go.Lex
/-- what a reading of one token answers -/
def RefP (w : World) (r : Except Fault (Nat × B × Nat)) : Ending → World → Prop := fun en w' => (match r with
    | .ok (k, t, n) => en = .returned (.tuple #[.agg #[.int .i64 (k : Int), .string (bs t), .int .i64 0], .int .i64 (n : Int), .agg #[.int .i64 0, .int .i64 0]])
    | .error f => en = .returned (.tuple #[.agg #[.int .i64 0, .string ⟨#[]⟩, .int .i64 0], .int .i64 0, .agg #[.int .i64 (f.err : Int), .int .i64 (f.at' : Int)]])) ∧ Fr noB w w'
section
variable {w : World}
theorem tok_ret {R : Ending → World → Prop} {m1 m2 : Nat} {v0 v1 v2 u0 u1 : Value} (B1 : Blk w m1 32 [v0, v1, v2]) (B2 : Blk w m2 27 [u0, u1]) (h12 : m1 ≠ m2) {k p n e a : Int} {t : ByteArray}
    (h : ∀ w', Fr (fun b => b = m1 ∨ b = m2) w w' → R (.returned (.tuple #[.agg #[.int .i64 k, .string t, .int .i64 p], .int .i64 n, .agg #[.int .i64 e, .int .i64 a]])) w') :
    stG ⟨m1, 0, none⟩ (.int .i64 k) (stG ⟨m1, 1, none⟩ (.string t) (stG ⟨m1, 2, none⟩ (.int .i64 p) (stG ⟨m2, 0, none⟩ (.int .i64 e) (stG ⟨m2, 1, none⟩ (.int .i64 a)
      (ldG (.int .i64) ⟨m1, 0, none⟩ (fun (n12 : Int) => ldG .str ⟨m1, 1, none⟩ (fun (s13 : ByteArray) => ldG (.int .i64) ⟨m1, 2, none⟩ (fun (n14 : Int) => ldG (.int .i64) ⟨m2, 0, none⟩ (fun (n15 : Int) => ldG (.int .i64) ⟨m2, 1, none⟩
        (fun (n16 : Int) => retG (.tuple #[.agg #[.int .i64 n12, .string s13, .int .i64 n14], .int .i64 n, .agg #[.int .i64 n15, .int .i64 n16]]))))))))))) R w := by
  refine B1.st (o := 0) rfl (by simp) fun w1 C1 F1 => C1.st (o := 1) rfl (by simp) fun w2 C2 F2 => C2.st (o := 2) rfl (by simp) fun w3 C3 F3 => ?_
  have F13 := (F1.sq F2).sq F3
  refine (B2.fr F13 (fun h => h12 h.symm)).st (o := 0) rfl (by simp) fun w4 D4 F4 => D4.st (o := 1) rfl (by simp) fun w5 D5 F5 => ?_
  have F45 := F4.sq F5
  have C5 := C3.fr F45 (fun h => h12 h)
  refine C5.ld (c := .int .i64) (x := k) (o := 0) rfl (C5.ld (c := .str) (x := t) (o := 1) rfl (C5.ld (c := .int .i64) (x := p) (o := 2) rfl (D5.ld (c := .int .i64) (x := e) (o := 0) rfl (D5.ld (c := .int .i64) (x := a) (o := 1) rfl ?_))))
  exact h _ ((F13.mono fun _ _ h => Or.inl h).then F45 fun _ _ h => Or.inr h)
theorem bad_ret {R : Ending → World → Prop} {m1 m2 m3 : Nat} {v0 v1 v2 u0 u1 : Value} (B1 : Blk w m1 32 [v0, v1, v2]) (B2 : Blk w m2 27 [u0, u1]) {e a : Int} (B3 : Blk w m3 27 [.int .i64 e, .int .i64 a]) (h12 : m1 ≠ m2) (h13 : m1 ≠ m3)
    (h : ∀ w', Fr (fun b => b = m1 ∨ b = m2) w w' → R (.returned (.tuple #[.agg #[.int .i64 0, .string ⟨#[]⟩, .int .i64 0], .int .i64 0, .agg #[.int .i64 e, .int .i64 a]])) w') :
    drewG (ldG (.int .i64) ⟨m3, 0, none⟩ (fun (n18 : Int) => ldG (.int .i64) ⟨m3, 1, none⟩ (fun (n19 : Int) =>
      stG ⟨m1, 0, none⟩ (.int .i64 0) (stG ⟨m1, 1, none⟩ (.string (ByteArray.mk #[])) (stG ⟨m1, 2, none⟩ (.int .i64 0) (keepG [(⟨m3, 0, none⟩, [.int .i64 n18, .int .i64 n19])] (stG ⟨m2, 0, none⟩ (.int .i64 n18) (stG ⟨m2, 1, none⟩ (.int .i64 n19)
      (ldG (.int .i64) ⟨m1, 0, none⟩ (fun (n12 : Int) => ldG .str ⟨m1, 1, none⟩ (fun (s13 : ByteArray) => ldG (.int .i64) ⟨m1, 2, none⟩ (fun (n14 : Int) => ldG (.int .i64) ⟨m2, 0, none⟩ (fun (n15 : Int) => ldG (.int .i64) ⟨m2, 1, none⟩
        (fun (n16 : Int) => retG (.tuple #[.agg #[.int .i64 n12, .string s13, .int .i64 n14], .int .i64 0, .agg #[.int .i64 n15, .int .i64 n16]]))))))))))))))) R w := by
  refine drew_ok fun w0 F0 z0 => ?_
  have B1' := B1.fr F0 (fun h => h)
  have B2' := B2.fr F0 (fun h => h)
  have B3' := B3.fr F0 (fun h => h)
  refine B3'.ld (c := .int .i64) (x := e) (o := 0) rfl (B3'.ld (c := .int .i64) (x := a) (o := 1) rfl ?_)
  refine B1'.st (o := 0) rfl (by simp) fun w1 C1 F1 => C1.st (o := 1) rfl (by simp) fun w2 C2 F2 => C2.st (o := 2) rfl (by simp) fun w3 C3 F3 => ?_
  have F13 := (F1.sq F2).sq F3
  refine keep_cons ((B3'.fr F13 (fun h => h13 h.symm)).held fun j v hj => by rw [Nat.zero_add]; exact hj) (keep_nil ?_)
  refine (B2'.fr F13 (fun h => h12 h.symm)).st (o := 0) rfl (by simp) fun w4 D4 F4 => D4.st (o := 1) rfl (by simp) fun w5 D5 F5 => ?_
  have F45 := F4.sq F5
  have C5 := C3.fr F45 (fun h => h12 h)
  refine C5.ld (c := .int .i64) (x := 0) (o := 0) rfl (C5.ld (c := .str) (x := ⟨#[]⟩) (o := 1) rfl (C5.ld (c := .int .i64) (x := 0) (o := 2) rfl (D5.ld (c := .int .i64) (x := e) (o := 0) rfl (D5.ld (c := .int .i64) (x := a) (o := 1) rfl ?_))))
  exact h _ (((F0.mono fun _ _ h => h.elim).then F13 fun _ _ h => Or.inl h).then F45 fun _ _ h => Or.inr h)
theorem rnumber_ok (s : ByteArray) (hs : s.size < 4611686018427387904) (hne : bl s ≠ []) : AnsB 55 #[.string s] w (Lex.number (bl s)) := by
  have hsl := bl_length s
  apply c55
  unfold t55
  refine join0_ok (fun w' => (bl s).all digit = true ∧ Fr noB w w') (fun kend hkend => ?_) ?_
  · refine count_ok s.size hs (fun k w' => (∀ i x, i < k → (bl s)[i]? = some x → digit x = true) ∧ Fr noB w w') (fun rec k w1 hk hI hrec => ?_) ⟨fun i x h => by omega, Fr.refl _ _⟩
    obtain ⟨hall, F1⟩ := hI
    refine ite_ok (fun hlt => ?_) fun hge => hkend _ ⟨all_at fun i x hi hx => hall i x ?_ hx, F1⟩
    · have hlt : (k : Int) < s.size := of_decide_eq_true hlt
      obtain ⟨c, hc⟩ : ∃ c, (bl s)[k]? = some c := ⟨_, List.getElem?_eq_getElem (by omega)⟩
      refine join_in (vs := []) (chrC_ok hc (callB_ok (rdigit_ok c) fun w2 F2 => ?_))
      cases hd : digit c with
      | false =>
        refine ite_yes rfl ⟨?_, F1.tr F2⟩
        unfold Lex.number
        rw [all_not hc hd, Bool.false_and, Bool.false_and]
      | true =>
        refine ite_no rfl (hrec (by omega) _ ⟨fun i x hi hx => ?_, F1.tr F2⟩)
        rcases Nat.lt_succ_iff_lt_or_eq.1 hi with hi | rfl
        · exact hall i x hi hx
        · rw [hc] at hx
          cases hx
          exact hd
    · have hge : ¬ (k : Int) < s.size := of_decide_eq_false hge
      omega
  rintro w1 ⟨hall, F1⟩
  refine join1_ok (c := .bool) (fun (b : Bool) w' => b = Lex.number (bl s) ∧ Fr noB w w') (fun k hk => ?_) (fun b w' h => done_b h)
  have hnum : Lex.number (bl s) = (decide ((bl s).length ≤ 15) && (bl s == [48] || (bl s).head? != some 48)) := by
    unfold Lex.number
    rw [hall, Bool.true_and]
  obtain ⟨x, r, hb⟩ := (bl_cases s).resolve_left hne
  have h0 : (bl s)[0]? = some x := by rw [hb]; rfl
  have hl : s.size = r.length + 1 := by rw [← hsl, hb]; rfl
  refine ite_yes (decide_eq_true (by omega)) (ite_ok (fun h15 => ?_) fun h15 => hk _ _ ⟨?_, F1⟩)
  · have h15 : (s.size : Int) ≤ 15 := of_decide_eq_true h15
    rw [decide_eq_true (by omega), Bool.true_and] at hnum
    refine ite_ok (fun h1 => hk _ _ ⟨?_, F1⟩) fun h1 => chr0_ok h0 (hk _ _ ⟨?_, F1⟩)
    · have h1 : (s.size : Int) = 1 := by simpa using h1
      have hr : r = [] := List.eq_nil_of_length_eq_zero (by omega)
      rw [hnum, hb, hr]
      by_cases hx : x = 48
      · subst hx; rfl
      · simp [hx]
    · have h1 : ¬ (s.size : Int) = 1 := by simpa using h1
      rw [hnum, hb, bne, u8_lit x 48 (z := 48) rfl]
      have : (x :: r == [48]) = false := by
        rw [beq_eq_false_iff_ne]
        intro e
        have := congrArg List.length e
        simp only [List.length_cons, List.length_nil] at this
        omega
      rw [this, Bool.false_or, List.head?_cons]
      show (!(x == 48)) = !(some x == some 48)
      rw [Option.some_beq_some]
  · have h15 : ¬ (s.size : Int) ≤ 15 := of_decide_eq_false h15
    rw [hnum, decide_eq_false (by omega), Bool.false_and]
set_option maxHeartbeats 4000000 in
theorem rquoted_ok (s : ByteArray) (r : B) (hb : bl s = 34 :: r) (hs : s.size ≤ 100000) : Calls Tryz.prog 56 #[.string s] w (RefP w (match quotedL 1 r [] with
      | .ok (t, n) => .ok (4, t, n)
      | .error e => .error e)) := by
  have hsl := bl_length s
  have hl : s.size = r.length + 1 := by rw [← hsl, hb]; rfl
  apply c56
  unfold t56
  refine new_ok fun w1 m1 hm1 hs1 B1 F1 => new_ok fun w2 m2 hm2 hs2 B2 F2 => new_ok fun w3 m3 hm3 hs3 B3 F3 => ?_
  refine B3.st (o := 0) rfl (by simp) fun w4 B4 F4 => B4.st (o := 1) rfl (by simp) fun w5 B5 F5 => ?_
  have F35 := F4.sq F5
  have C1 := ((B1.fr F2 (fun h => h)).fr F3 (fun h => h)).fr F35 (fun h => by unfold oneB at h; omega)
  have C2 := (B2.fr F3 (fun h => h)).fr F35 (fun h => by unfold oneB at h; omega)
  have G5 : Fr noB w w5 := ((F1.tr F2).tr F3).then F35 fun y hy h => by unfold oneB at h; omega
  have hs35 := F35.size
  -- the ways out
  have fin : ∀ {w' w'' : World}, Fr noB w5 w' → Fr (fun b => b = m1 ∨ b = m2) w' w'' → Fr noB w w'' := fun F F' => (G5.tr F).then F' fun y hy h => by omega
  have good : ∀ {w' : World} {k p n e a : Int} {t : ByteArray} {R : Ending → World → Prop}, Fr noB w5 w' → (∀ w'', Fr noB w w'' → R (.returned (.tuple #[.agg #[.int .i64 k, .string t, .int .i64 p], .int .i64 n, .agg #[.int .i64 e, .int .i64 a]])) w'') → _ := fun {w'} {k} {p} {n} {e} {a} {t} {R} F h => tok_ret (k := k) (p := p) (n := n) (e := e) (a := a) (t := t) (R := R) (C1.fr F (fun h => h)) (C2.fr F (fun h => h)) (by omega) fun w'' F' => h w'' (fin F F')
  have bad : ∀ {w' : World}, quotedL 1 r [] = .error ⟨60, 0⟩ → Fr noB w5 w' → _ := fun {w'} h F => bad_ret (R := RefP w (match quotedL 1 r [] with | .ok (t, n) => .ok (4, t, n) | .error e => .error e)) (C1.fr F (fun h => h)) (C2.fr F (fun h => h)) (B5.fr F (fun h => h)) (by omega) (by omega) fun w'' F' => by
    unfold RefP
    rw [h]
    exact ⟨rfl, fin F F'⟩
  obtain ⟨tb, zb, hib, hzb, b1, b2, b3⟩ := rByte
  obtain ⟨tb', hib', hzb', b1', b2'⟩ := rByte'
  refine join0_ok (fun w' => quotedL 1 r [] = .error ⟨60, 0⟩ ∧ Fr noB w5 w') (fun k4 hk4 => ?_) (fun w' ⟨h, F⟩ => bad h F)
  refine loop_ok (vs := [.one .slice, .one (.int .i64)]) (fun xs w' => ∃ (i : Nat) (out : B), (show Int from xs.2.1.1) = (i : Int) ∧ i ≤ s.size ∧ out.length ≤ i ∧ quotedL 1 r [] = quotedL i ((bl s).drop i) out ∧
      w'.ownsRow w5.heap.size 5 1 (.slice (show Sl from xs.1.1).a (show Sl from xs.1.1).n (show Sl from xs.1.1).c) out.length (byteCells out) ∧ Fr noB w5 w')
    (fun xs => s.size - (show Int from xs.2.1.1).toNat) ?_ (xs := (((⟨none, 0, 0⟩ : Sl), ()), (((1 : Int), ()), ()))) ⟨1, [], rfl, by omega, by simp, by rw [hb]; rfl, ⟨rfl, .inl ⟨rfl, rfl⟩⟩, Fr.refl _ _⟩
  rintro rec ⟨⟨l6, ⟨⟩⟩, ⟨⟨i', ⟨⟩⟩, ⟨⟩⟩⟩ w6 ⟨i, out, hi, his, hol, hq, hown, F6⟩ hrec
  change Sl at l6
  change Int at i'
  change i' = _ at hi
  subst hi
  change w6.ownsRow _ _ _ (.slice l6.a l6.n l6.c) _ _ at hown
  refine ite_ok (fun hlt => ?_) fun hge => hk4 _ ⟨?_, F6⟩
  rotate_left
  · have hge : ¬ (i : Int) < s.size := of_decide_eq_false hge
    rw [hq, List.drop_of_length_le (by omega)]
    rfl
  have hlt : (i : Int) < s.size := of_decide_eq_true hlt
  obtain ⟨c, hc⟩ : ∃ c, (bl s)[i]? = some c := ⟨_, List.getElem?_eq_getElem (by omega)⟩
  have hdr : (bl s).drop i = c :: (bl s).drop (i + 1) := by
    obtain ⟨hh, e⟩ := List.getElem?_eq_some_iff.1 hc
    rw [List.drop_eq_getElem_cons hh, e]
  have hcl := c.toNat_lt
  rw [hdr] at hq
  have ew1 : IntKind.wrap .i64 ((i : Int) + 1) = ((i + 1 : Nat) : Int) := by rw [wrap_ok (by omega) (by omega)]; omega
  have ew2 : IntKind.wrap .i64 ((i : Int) + 2) = ((i + 2 : Nat) : Int) := by rw [wrap_ok (by omega) (by omega)]; omega
  have next : ∀ {l : Sl} {w' : World} {j : Nat} {out' : B}, i < j → j ≤ s.size → out'.length ≤ j → quotedL 1 r [] = quotedL j ((bl s).drop j) out' → w'.ownsRow w5.heap.size 5 1 (.slice l.a l.n l.c) out'.length (byteCells out') → Fr noB w5 w' →
      uncV rec ((l, ()), (((j : Int), ()), ())) _ w' := fun {l} {w'} {j} {out'} h1 h2 h3 h4 h5 h6 => hrec _ _ ⟨j, out', rfl, h2, h3, h4, h5, h6⟩ (by show s.size - ((j : Nat) : Int).toNat < s.size - ((i : Nat) : Int).toNat; simp only [Int.toNat_natCast]; omega)
  refine join_in (vs := [.one .slice, .one (.int .i64)]) (join_in (vs := [.one .slice, .one (.int .i64)]) (chrC_ok hc ?_))
  rw [u8_lit c 34 (z := 34) rfl]
  by_cases h34 : c = 34
  · subst h34
    rw [quotedL_end] at hq
    refine ite_yes rfl (back_ok rfl hown ?_)
    rw [ew1]
    refine good F6 fun w'' F => ?_
    show RefP w _ _ _
    unfold RefP
    rw [hq]
    exact ⟨rfl, F⟩
  refine ite_no (by simpa using h34) (chrC_ok hc ?_)
  by_cases h32 : c.toNat < 32
  · rw [quotedL_low h32] at hq
    exact ite_yes (decide_eq_true (by omega)) (bad hq F6)
  refine ite_no (decide_eq_false (by omega)) (chrC_ok hc (join_in (vs := [.one .slice, .one (.int .i64)]) ?_))
  rw [u8_lit c 92 (z := 92) rfl]
  by_cases h92 : c = 92
  · subst h92
    refine ite_yes rfl ?_
    rw [ew1]
    cases hr : (bl s).drop (i + 1) with
    | nil =>
      have := List.drop_eq_nil_iff.1 hr
      rw [hr] at hq
      exact ite_yes (by rw [beq_iff_eq]; omega) (bad hq F6)
    | cons e r' =>
      obtain ⟨_, hdr2, hlt2⟩ := drop_cons_getD hr
      rw [hsl] at hlt2
      rw [hr, quotedL_esc] at hq
      have he : (bl s)[i + 1]? = some e := by
        have := congrArg (fun l => l[0]?) hr
        simpa using this
      have hel := e.toNat_lt
      refine ite_no (by rw [beq_eq_false_iff_ne]; omega) (chrC_ok he ?_)
      -- one byte more
      have add : ∀ {b : UInt8} {w' : World} {K : Sl → G} {R : Ending → World → Prop}, Fr noB w5 w' → w'.ownsRow w5.heap.size 5 1 (.slice l6.a l6.n l6.c) out.length (byteCells out) →
          (∀ l w'', w''.ownsRow w5.heap.size 5 1 (.slice l.a l.n l.c) (out ++ [b]).length (byteCells (out ++ [b])) → Fr noB w5 w'' → K l R w'') →
          newG (.cells #[.int .u8 (b.toNat : Int)] 5 (0, 0)) (fun (m37 : Nat) => opG Tryz.prog (Builtin.append_ #[80, 80] 80 #[.slice l6.a l6.n l6.c, .slice (some ⟨m37, 0, none⟩) 1 1]) (.one .slice) (fun (l38 : Sl) => K l38)) R w' := fun {b} {w'} {K} {R} F ho h => by
        refine new_ok fun w7 m hm hs7 B7 F7 => ?_
        have ho7 := own_fr0 ho F7
        refine appendC_ok uBytes hib hzb b1 b2 (by rw [b3]; rfl) (by omega) (s := l6) ho7 (m := 1) (news := [.int .u8 (b.toNat : Int)]) rfl (B7.held fun j v hj => by rw [Nat.zero_add]; exact hj) (fun u hu => by rw [List.mem_singleton.1 hu]; rfl) (by unfold maxLen; omega) (by omega) (by have := (F.tr F7).size; omega) fun l w8 ho8 F8 => ?_
        refine h l w8 ?_ ((F.tr F7).then F8 fun y hy h => by have := (ho7.lt y h).1; omega)
        rw [List.length_append, List.length_singleton]
        have : byteCells (out ++ [b]) = byteCells out ++ [.int .u8 (b.toNat : Int)] := by simp [byteCells]
        rw [this]
        exact ho8
      have go : ∀ {b : UInt8} {l : Sl} {w'' : World}, esc e = some b → w''.ownsRow w5.heap.size 5 1 (.slice l.a l.n l.c) (out ++ [b]).length (byteCells (out ++ [b])) → Fr noB w5 w'' → uncV rec ((l, ()), ((IntKind.wrap .i64 ((i : Int) + 2), ()), ())) _ w'' := fun {b} {l} {w''} hb h1 h2 => by
        rw [ew2]
        rw [hb] at hq
        exact next (by omega) (by omega) (by rw [List.length_append, List.length_singleton]; omega) (by rw [show i + 2 = i + 1 + 1 by omega, hdr2]; exact hq) h1 h2
      refine join_in (vs := [.one .slice]) (join_in (vs := [.one .slice]) ?_)
      rw [u8_lit e 110 (z := 110) rfl, u8_lit e 116 (z := 116) rfl, u8_lit e 34 (z := 34) rfl, u8_lit e 92 (z := 92) rfl]
      by_cases e1 : e = 110
      · exact ite_yes (by simpa using e1) (add (b := 10) F6 hown fun l w'' h1 h2 => go (by rw [e1]; rfl) h1 h2)
      refine ite_no (by simpa using e1) (join_in (vs := [.one .slice]) ?_)
      by_cases e2 : e = 116
      · exact ite_yes (by simpa using e2) (add (b := 9) F6 hown fun l w'' h1 h2 => go (by rw [e2]; rfl) h1 h2)
      refine ite_no (by simpa using e2) ?_
      refine join1_ok (c := .bool) (fun (b : Bool) w' => b = (e == 34 || e == 92) ∧ w' = w6) (fun kj hkj => ite_ok (fun h => hkj _ _ ⟨by rw [h]; rfl, rfl⟩) fun h => hkj _ _ ⟨by rw [h]; rfl, rfl⟩) ?_
      rintro b w7 ⟨rfl, hw⟩
      replace hw := hw.symm
      subst hw
      by_cases e3 : e = 34
      · exact ite_yes (by rw [e3]; rfl) (chrC_ok he (add (b := e) F6 hown fun l w'' h1 h2 => go (by rw [e3]; rfl) h1 h2))
      by_cases e4 : e = 92
      · exact ite_yes (by rw [e4]; rfl) (chrC_ok he (add (b := e) F6 hown fun l w'' h1 h2 => go (by rw [e4]; rfl) h1 h2))
      have hesc : esc e = none := by unfold esc; rw [if_neg e1, if_neg e2, if_neg e3, if_neg e4]
      rw [hesc] at hq
      exact ite_no (by simp [e3, e4]) (bad hq F6)
  · refine ite_no (by simpa using h92) ?_
    have hqc : ∀ {i : Nat} {out : B}, quotedL i (c :: (bl s).drop (i + 1)) out = match utfLen (c :: (bl s).drop (i + 1)) with
        | 0 => .error ⟨30, i⟩
        | n + 1 => quotedL (i + (n + 1)) ((c :: (bl s).drop (i + 1)).drop (n + 1)) (out ++ (c :: (bl s).drop (i + 1)).take (n + 1)) := fun {i} {out} => by
      conv => lhs; unfold quotedL quotedF
      rw [if_neg h34, if_neg h32, if_neg h92]
      have hle := utfLen_le (c :: (bl s).drop (i + 1))
      cases hu : utfLen (c :: (bl s).drop (i + 1)) with
      | zero => rfl
      | succ n => exact quotedL_F (by rw [List.length_drop, List.length_cons]; omega)
    rw [hqc] at hq
    refine subE_ok (i := i) (by omega) (callE_ok (First_ok _) fun p w7 F7 => ?_)
    rw [bl_bs, hdr]
    have hle := utfLen_le (c :: (bl s).drop (i + 1))
    rw [List.length_cons, List.length_drop] at hle
    cases hu : utfLen (c :: (bl s).drop (i + 1)) with
    | zero =>
      rw [hu] at hq
      refine ite_yes rfl (good (F6.tr F7) fun w'' F => ?_)
      show RefP w _ _ _
      unfold RefP
      rw [hq]
      exact ⟨rfl, F⟩
    | succ n =>
      rw [hu] at hq hle
      refine ite_no (by rw [beq_eq_false_iff_ne]; omega) ?_
      have ewn : IntKind.wrap .i64 ((i : Int) + ((n + 1 : Nat) : Int)) = ((i + (n + 1) : Nat) : Int) := by rw [wrap_ok (by omega) (by omega)]; omega
      show subG s (i : Int) (IntKind.wrap .i64 ((i : Int) + ((n + 1 : Nat) : Int))) _ _ _
      rw [ewn]
      refine subB_ok (i := i) (j := i + (n + 1)) (by omega) (by omega) ?_
      rw [hdr, Nat.add_sub_cancel_left]
      have hown7 := own_fr0 hown F7
      have htl : ((c :: (bl s).drop (i + 1)).take (n + 1)).length = n + 1 := by rw [List.length_take, List.length_cons, List.length_drop]; omega
      refine appendSB_ok uBytes us hib' hzb' b1' b2' hown7 (bs ((c :: (bl s).drop (i + 1)).take (n + 1))) (by rw [bs_size, htl]; unfold maxLen; omega) (by rw [bs_size, htl]; omega) (by have := (F6.tr F7).size; omega) fun l w8 hown8 F8 => ?_
      refine next (j := i + (n + 1)) (out' := out ++ (c :: (bl s).drop (i + 1)).take (n + 1)) (by omega) (by omega) (by rw [List.length_append, htl]; omega) ?_ ?_ ((F6.tr F7).then F8 fun y hy h => by omega)
      · rw [hq, ← hdr]
        simp only [List.drop_drop]
      · rw [List.length_append, htl]
        rw [bs_size, htl] at hown8
        have : byteCells (out ++ (c :: (bl s).drop (i + 1)).take (n + 1)) = byteCells out ++ Go.Lib.strCells (bs ((c :: (bl s).drop (i + 1)).take (n + 1))) := by simp [byteCells, Go.Lib.strCells, bs]
        rw [this]
        exact hown8
end
end Go.Proofs.YthnfcbjfmghomaaGreatDoor
