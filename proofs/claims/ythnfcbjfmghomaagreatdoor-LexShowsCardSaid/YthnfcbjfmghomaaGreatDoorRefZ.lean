/- The document's tokens: blanks, a first token, Scan. No condition. -/
import Derived.Test.YthnfcbjfmghomaaGreatDoorRefY
import Derived.Test.YthnfcbjfmghomaaGreatDoorLexK
namespace Go.Lex
theorem tw_len_le (p : UInt8 → Bool) (s : B) : (s.takeWhile p).length ≤ s.length := (s.takeWhile_sublist p).length_le
theorem tw_eq_take (p : UInt8 → Bool) (s : B) : s.takeWhile p = s.take (s.takeWhile p).length := List.prefix_iff_eq_take.1 (List.takeWhile_prefix _)
theorem passedS_no {s : B} (h : ∀ r, s.drop (s.takeWhile blank).length ≠ 45 :: 45 :: r) : passedS s = .ok (s.takeWhile blank).length := by
  unfold passedS
  simp only []
theorem passedS_line {s r : B} (h : s.drop (s.takeWhile blank).length = 45 :: 45 :: r) : passedS s = match utfBad (comment (45 :: 45 :: r)) with
    | some k => .error ⟨30, (s.takeWhile blank).length + k⟩
    | none => .ok ((s.takeWhile blank).length + (comment (45 :: 45 :: r)).length) := by
  unfold passedS
  simp only []
  rw [h]
  rfl
theorem tw_drop (p : UInt8 → Bool) : ∀ (s : B) (j : Nat), j ≤ (s.takeWhile p).length → (s.takeWhile p).drop j = (s.drop j).takeWhile p
  | s, 0, _ => by simp
  | [], j + 1, h => by simp at h
  | c :: r, j + 1, h => by
    rw [List.takeWhile_cons] at h ⊢
    split
    · rename_i hc
      rw [if_pos hc] at h
      simp only [List.drop_succ_cons]
      exact tw_drop p r j (by simpa using h)
    · rename_i hc
      rw [if_neg hc] at h
      simp at h
theorem scanL_blanks (acc : List Tok) : ∀ (s : B) (i : Nat), scanL i s acc = scanL (i + (s.takeWhile blank).length) (s.drop (s.takeWhile blank).length) acc
  | [], i => rfl
  | c :: r, i => by
    by_cases h : blank c = true
    · rw [scanL_blank h, scanL_blanks acc r (i + 1), List.takeWhile_cons, if_pos h]
      simp only [List.length_cons, List.drop_succ_cons]
      rw [show i + 1 + (r.takeWhile blank).length = i + ((r.takeWhile blank).length + 1) by omega]
    · rw [List.takeWhile_cons, if_neg h]
      rfl
theorem scanL_pass {s : B} {i n : Nat} {acc : List Tok} (h : passedS s = .ok n) : scanL i s acc = scanL (i + n) (s.drop n) acc ∧ n ≤ s.length := by
  have hb := scanL_blanks acc s i
  have hl := tw_len_le blank s
  by_cases hx : ∃ r, s.drop (s.takeWhile blank).length = 45 :: 45 :: r
  · obtain ⟨r, hr⟩ := hx
    rw [passedS_line hr] at h
    rw [hr, scanL_line (by decide) ⟨rfl, rfl⟩] at hb
    cases hu : utfBad (comment (45 :: 45 :: r)) with
    | some k => rw [hu] at h; cases h
    | none =>
      rw [hu] at h hb
      cases h
      simp only [] at hb
      rw [hb, ← hr, List.drop_drop, Nat.add_assoc]
      refine ⟨rfl, ?_⟩
      have h1 := tw_len_le (· != 10) (s.drop (s.takeWhile blank).length)
      rw [List.length_drop] at h1
      show _ + ((s.drop (s.takeWhile blank).length).takeWhile (· != 10)).length ≤ _
      omega
  · rw [passedS_no fun r hr => hx ⟨r, hr⟩] at h
    cases h
    exact ⟨hb, hl⟩
theorem scanL_passE {s : B} {i : Nat} {acc : List Tok} {f : Fault} (h : passedS s = .error f) : scanL i s acc = .error ⟨f.err, i + f.at'⟩ ∧ f.err ≠ 0 ∧ f.at' ≤ s.length := by
  have hb := scanL_blanks acc s i
  have hl := tw_len_le blank s
  by_cases hx : ∃ r, s.drop (s.takeWhile blank).length = 45 :: 45 :: r
  · obtain ⟨r, hr⟩ := hx
    rw [passedS_line hr] at h
    rw [hr, scanL_line (by decide) ⟨rfl, rfl⟩] at hb
    cases hu : utfBad (comment (45 :: 45 :: r)) with
    | some k =>
      rw [hu] at h hb
      cases h
      simp only [] at hb
      have h1 := tw_len_le (· != 10) (s.drop (s.takeWhile blank).length)
      have h2 := utfBad_le hu
      rw [← hr] at h2
      unfold comment at h2
      rw [List.length_drop] at h1
      refine ⟨by rw [hb, Nat.add_assoc], (show 30 ≠ 0 by decide), ?_⟩
      show _ + k ≤ _
      omega
    | none => rw [hu] at h; cases h
  · rw [passedS_no fun r hr => hx ⟨r, hr⟩] at h
    cases h
theorem pass0 {c : UInt8} {r : B} (h : passedS (c :: r) = .ok 0) : blank c = false ∧ ¬ (c = 45 ∧ r.head? = some 45) := by
  have hb : blank c = false := by
    rw [Bool.eq_false_iff]
    intro hb
    by_cases hx : ∃ x, (c :: r).drop ((c :: r).takeWhile blank).length = 45 :: 45 :: x
    · obtain ⟨x, hr⟩ := hx
      rw [passedS_line hr] at h
      cases hu : utfBad (comment (45 :: 45 :: x)) with
      | some k => rw [hu] at h; cases h
      | none =>
        rw [hu, List.takeWhile_cons, if_pos hb] at h
        simp only [List.length_cons, Except.ok.injEq] at h
        omega
    · rw [passedS_no fun x hr => hx ⟨x, hr⟩, List.takeWhile_cons, if_pos hb] at h
      simp at h
  refine ⟨hb, ?_⟩
  rintro ⟨rfl, h2⟩
  cases r with
  | nil => cases h2
  | cons d r =>
    simp only [List.head?_cons, Option.some.injEq] at h2
    subst h2
    have hz : ((45 : UInt8) :: 45 :: r).takeWhile blank = [] := rfl
    have hr : ((45 : UInt8) :: 45 :: r).drop (((45 : UInt8) :: 45 :: r).takeWhile blank).length = 45 :: 45 :: r := by rw [hz]; rfl
    rw [passedS_line hr, hz] at h
    cases hu : utfBad (comment (45 :: 45 :: r)) with
    | some k => rw [hu] at h; cases h
    | none =>
      rw [hu] at h
      have := comment_pos (45 :: r)
      simp only [List.length_nil, Except.ok.injEq] at h
      omega
end Go.Lex
namespace Go.Proofs.YthnfcbjfmghomaaGreatDoor
open Go.Lift Go.Lex
section
variable {w : World}
set_option maxHeartbeats 2000000 in
theorem passed_ok (s : ByteArray) (hs : s.size ≤ 100000) : Calls Tryz.prog 37 #[.string s] w fun e w' => (match passedS (bl s) with
    | .ok n => e = .returned (.tuple #[.int .i64 (n : Int), .agg #[.int .i64 0, .int .i64 0]])
    | .error f => e = .returned (.tuple #[.int .i64 0, .agg #[.int .i64 (f.err : Int), .int .i64 (f.at' : Int)]])) ∧ Fr noB w w' := by
  have hsl := bl_length s
  have hNl := tw_len_le Lex.blank (bl s)
  apply c37
  unfold t37
  refine new_ok fun w1 m1 hm1 hs1 B1 F1 => ?_
  -- the ways out
  have out : ∀ {w' : World} {n e a : Int} {R : Ending → World → Prop}, Fr noB w1 w' → (∀ w'', Fr noB w w'' → R (.returned (.tuple #[.int .i64 n, .agg #[.int .i64 e, .int .i64 a]])) w'') →
      stG ⟨m1, 0, none⟩ (.int .i64 e) (stG ⟨m1, 1, none⟩ (.int .i64 a) (ldG (.int .i64) ⟨m1, 0, none⟩ (fun (n18 : Int) => ldG (.int .i64) ⟨m1, 1, none⟩ (fun (n19 : Int) => retG (.tuple #[.int .i64 n, .agg #[.int .i64 n18, .int .i64 n19]]))))) R w' := fun {w'} {n} {e} {a} {R} F h => by
    refine (B1.fr F (fun h => h)).st (o := 0) rfl (by simp) fun w2 B2 F2 => B2.st (o := 1) rfl (by simp) fun w3 B3 F3 => ?_
    refine B3.ld (c := .int .i64) (x := e) (o := 0) rfl (B3.ld (c := .int .i64) (x := a) (o := 1) rfl (h _ ?_))
    exact (F1.tr F).then (F2.sq F3) fun y hy h => by unfold oneB at h; omega
  refine join1_ok (c := .int .i64) (fun (n : Int) w' => n = ((((bl s).takeWhile Lex.blank).length : Nat) : Int) ∧ Fr noB w1 w') (fun kend hkend => ?_) ?_
  · refine count_ok s.size (by omega) (fun k w' => (∀ i x, i < k → (bl s)[i]? = some x → Lex.blank x = true) ∧ Fr noB w1 w') (fun rec k w2 hk hI hrec => ?_) ⟨fun i x h => by omega, Fr.refl _ _⟩
    obtain ⟨hall, F2⟩ := hI
    refine join1_ok (c := .bool) (fun (b : Bool) w' => w' = w2 ∧ (b = true → ∃ x, (bl s)[k]? = some x ∧ Lex.blank x = true) ∧ (b = false → ∀ x, (bl s)[k]? = some x → Lex.blank x = false)) (fun kj hkj => ?_) ?_
    · refine ite_ok (fun hlt => ?_) fun hge => hkj _ _ ⟨rfl, (fun e => by cases e), fun _ x hx => ?_⟩
      · have hlt : (k : Int) < s.size := of_decide_eq_true hlt
        obtain ⟨c, hc⟩ : ∃ c, (bl s)[k]? = some c := ⟨_, List.getElem?_eq_getElem (by omega)⟩
        have goal : ∀ {b : Bool}, b = Lex.blank c → kj b _ w2 := fun {b} hb => hkj _ _ ⟨rfl, fun e => ⟨c, hc, by rw [← hb, e]⟩, fun e y hy => by rw [hc] at hy; cases hy; rw [← hb, e]⟩
        have hbl : Lex.blank c = (c == 32 || c == 10 || c == 9 || c == 13) := rfl
        refine chrC_ok hc ?_
        rw [u8_lit c 9 (z := 9) rfl]
        refine ite_ok (fun h => goal (by rw [hbl, h]; simp)) fun h1 => chrC_ok hc ?_
        rw [u8_lit c 10 (z := 10) rfl]
        refine ite_ok (fun h => goal (by rw [hbl, h]; simp)) fun h2 => chrC_ok hc ?_
        rw [u8_lit c 13 (z := 13) rfl]
        refine ite_ok (fun h => goal (by rw [hbl, h]; simp)) fun h3 => chrC_ok hc (goal ?_)
        rw [u8_lit c 32 (z := 32) rfl, hbl, h1, h2, h3]
        simp
      · have hge : ¬ (k : Int) < s.size := of_decide_eq_false hge
        have := (List.getElem?_eq_some_iff.1 hx).1
        omega
    rintro b w3 ⟨hw, ht, hf⟩
    replace hw := hw.symm
    subst hw
    refine ite_ok (fun h => ?_) fun h => hkend _ _ ⟨?_, F2⟩
    · obtain ⟨x, hx, hr⟩ := ht h
      have hlt : k < s.size := by have := (List.getElem?_eq_some_iff.1 hx).1; omega
      refine hrec hlt _ ⟨fun i y hi hy => ?_, F2⟩
      rcases Nat.lt_succ_iff_lt_or_eq.1 hi with hi | rfl
      · exact hall i y hi hy
      · rw [hx] at hy
        cases hy
        exact hr
    · rw [takeWhile_at (k := k) hall (by omega) (hf h), List.length_take]
      congr 1
      omega
  rintro n w2 ⟨rfl, F2⟩
  generalize hN : ((bl s).takeWhile Lex.blank).length = N at *
  have ewN : IntKind.wrap .i64 ((N : Int) + 1) = ((N + 1 : Nat) : Int) := by rw [wrap_ok (by omega) (by omega)]; omega
  rw [ewN]
  -- no remark
  have no : (∀ r, (bl s).drop N ≠ 45 :: 45 :: r) → passedS (bl s) = .ok N := fun h => by
    have := passedS_no (s := bl s) (by rw [hN]; exact h)
    rw [this, hN]
  by_cases hx : ∃ r, (bl s).drop N = 45 :: 45 :: r
  rotate_left
  · have hno := no fun r hr => hx ⟨r, hr⟩
    refine join1_ok (c := .bool) (fun (b : Bool) w' => b = true ∧ w' = w2) (fun kj hkj => ?_) ?_
    · refine ite_ok (fun h => hkj _ _ ⟨rfl, rfl⟩) fun h => ?_
      have h : ¬ ((N + 1 : Nat) : Int) ≥ s.size := of_decide_eq_false h
      obtain ⟨c, hc⟩ : ∃ c, (bl s)[N]? = some c := ⟨_, List.getElem?_eq_getElem (by omega)⟩
      obtain ⟨d, hd⟩ : ∃ d, (bl s)[N + 1]? = some d := ⟨_, List.getElem?_eq_getElem (by omega)⟩
      refine chrC_ok hc ?_
      rw [bne, u8_lit c 45 (z := 45) rfl]
      refine ite_ok (fun h => hkj _ _ ⟨rfl, rfl⟩) fun h1 => chrC_ok hd (hkj _ _ ⟨?_, rfl⟩)
      rw [bne, u8_lit d 45 (z := 45) rfl]
      have h1 : c = 45 := by simpa using h1
      simp only [Bool.not_eq_true', beq_eq_false_iff_ne]
      rintro rfl
      refine hx ⟨(bl s).drop (N + 1 + 1), ?_⟩
      obtain ⟨hh, e⟩ := List.getElem?_eq_some_iff.1 hc
      obtain ⟨hh2, e2⟩ := List.getElem?_eq_some_iff.1 hd
      rw [List.drop_eq_getElem_cons hh, e, List.drop_eq_getElem_cons hh2, e2, h1]
    rintro b w3 ⟨rfl, hw⟩
    replace hw := hw.symm
    subst hw
    refine ite_yes rfl (out F2 fun w'' F => ⟨?_, F⟩)
    rw [hno]
  obtain ⟨r, hr⟩ := hx
  have hline := passedS_line (s := bl s) (by rw [hN]; exact hr)
  rw [hN] at hline
  obtain ⟨_, hd1, hlt1⟩ := drop_cons_getD hr
  obtain ⟨_, hd2, hlt2⟩ := drop_cons_getD hd1
  rw [hsl] at hlt1 hlt2
  have hat : ∀ j, (bl s)[N + j]? = ((45 :: 45 :: r : B))[j]? := fun j => by
    rw [← hr, List.getElem?_drop]
  refine join1_ok (c := .bool) (fun (b : Bool) w' => b = false ∧ w' = w2) (fun kj hkj => ?_) ?_
  · refine ite_no (decide_eq_false (by omega)) (chrC_ok (c := 45) (by have := hat 0; rw [Nat.add_zero] at this; rw [this]; rfl) (ite_no rfl (chrC_ok (c := 45) (by rw [hat 1]; rfl) (hkj _ _ ⟨rfl, rfl⟩))))
  rintro b w3 ⟨rfl, hw⟩
  replace hw := hw.symm
  subst hw
  refine ite_no rfl ?_
  have hCl : N + (comment (45 :: 45 :: r)).length ≤ s.size := by
    have h1 := tw_len_le (· != 10) (45 :: 45 :: r)
    have h2 : ((45 :: 45 :: r : B)).length = s.size - N := by rw [← hr, List.length_drop, hsl]
    unfold comment
    omega
  refine join1_ok (c := .int .i64) (fun (n : Int) w' => n = ((N + (comment (45 :: 45 :: r)).length : Nat) : Int) ∧ utfBad (comment (45 :: 45 :: r)) = none ∧ Fr noB w1 w') (fun k20 hk20 => ?_) ?_
  · refine loop1_ok (c := .int .i64) (fun (n : Int) w' => ∃ j : Nat, n = ((N + j : Nat) : Int) ∧ j ≤ (comment (45 :: 45 :: r)).length ∧ utfBad (comment (45 :: 45 :: r)) = (utfBad ((comment (45 :: 45 :: r)).drop j)).map (· + j) ∧ Fr noB w1 w') (fun (n : Int) => s.size - n.toNat) ?_ ⟨0, by omega, Nat.zero_le _, by simp, F2⟩
    rintro rec n w4 ⟨j, rfl, hj, hu, F4⟩ hrec
    have hcd : (comment (45 :: 45 :: r)).drop j = comment ((45 :: 45 :: r).drop j) := tw_drop _ _ _ hj
    have hdj : (bl s).drop (N + j) = (45 :: 45 :: r).drop j := by rw [← List.drop_drop, hr]
    rw [hcd] at hu
    cases hE : (45 :: 45 :: r : B).drop j with
    | nil =>
      rw [hE] at hcd hu hdj
      have hge : s.size ≤ N + j := by have := List.drop_eq_nil_iff.1 hdj; omega
      have hjl : j = (comment (45 :: 45 :: r)).length := by have := List.drop_eq_nil_iff.1 hcd; omega
      refine join1_ok (c := .bool) (fun (b : Bool) w' => b = false ∧ w' = w4) (fun kj hkj => ite_no (decide_eq_false (by omega)) (hkj _ _ ⟨rfl, rfl⟩)) ?_
      rintro b w5 ⟨rfl, hw⟩
      replace hw := hw.symm
      subst hw
      exact ite_no rfl (hk20 _ _ ⟨by rw [hjl], by rw [hu]; rfl, F4⟩)
    | cons c e =>
      rw [hE] at hcd hu hdj
      obtain ⟨_, _, hlt⟩ := drop_cons_getD hdj
      rw [hsl] at hlt
      have hc : (bl s)[N + j]? = some c := by
        have := congrArg (fun l => l[0]?) hdj
        simpa using this
      refine join1_ok (c := .bool) (fun (b : Bool) w' => b = (c != 10) ∧ w' = w4) (fun kj hkj => ite_yes (decide_eq_true (by omega)) (chrC_ok hc (hkj _ _ ⟨by rw [bne, bne, u8_lit c 10 (z := 10) rfl], rfl⟩))) ?_
      rintro b w5 ⟨rfl, hw⟩
      replace hw := hw.symm
      subst hw
      by_cases h10 : c = 10
      · have hz : comment (c :: e) = [] := by rw [h10]; rfl
        rw [hz] at hcd hu
        have hjl : j = (comment (45 :: 45 :: r)).length := by have := List.drop_eq_nil_iff.1 hcd; omega
        exact ite_no (by rw [h10]; rfl) (hk20 _ _ ⟨by rw [hjl], by rw [hu]; rfl, F4⟩)
      refine ite_yes (by simpa using h10) ?_
      have hcc : comment (c :: e) = c :: comment e := by
        unfold comment
        rw [List.takeWhile_cons, if_pos (by simpa using h10)]
      have hul : utfLen (c :: e) = utfLen (comment (c :: e)) := by
        have h1 : c :: e = comment (c :: e) ++ (c :: e).drop (comment (c :: e)).length := by
          unfold comment
          conv => lhs; rw [← List.take_append_drop ((c :: e).takeWhile (· != 10)).length (c :: e), ← tw_eq_take]
        conv => lhs; rw [h1]
        refine utfLen_stop (by rw [hcc]; simp) fun x hx => ?_
        have h2 := (tw_drop (· != 10) (c :: e) ((c :: e).takeWhile (· != 10)).length (Nat.le_refl _)).symm
        rw [List.drop_length] at h2
        cases hy : (c :: e).drop (comment (c :: e)).length with
        | nil => rw [hy] at hx; cases hx
        | cons y z =>
          rw [hy] at hx
          cases hx
          unfold comment at hy
          rw [hy, List.takeWhile_cons] at h2
          split at h2
          · cases h2
          · rename_i h3
            have : x = 10 := by simpa using h3
            rw [this]
            decide
      refine join_in (vs := [.one (.int .i64)]) (subE_ok (i := N + j) (by omega) (callE_ok (First_ok _) fun p w6 F6 => ?_))
      rw [bl_bs, hdj, hul]
      have hle := utfLen_le (comment (c :: e))
      cases hn : utfLen (comment (c :: e)) with
      | zero =>
        rw [utfBad_bad (by rw [hcc]; simp) hn] at hu
        refine ite_yes rfl (out (F4.tr F6) fun w'' F => ⟨?_, F⟩)
        rw [hline, hu]
        simp only [Option.map_some, Nat.zero_add]
        rfl
      | succ m =>
        rw [utfBad_step (Nat.succ_pos m) hn] at hu
        rw [hn] at hle
        refine ite_no (by rw [beq_eq_false_iff_ne]; omega) ?_
        have hcl : (comment (45 :: 45 :: r)).length = j + (comment (c :: e)).length := by
          rw [← hcd, List.length_drop]
          omega
        have ew : IntKind.wrap .i64 (((N + j : Nat) : Int) + ((m + 1 : Nat) : Int)) = ((N + (j + (m + 1)) : Nat) : Int) := by rw [wrap_ok (by omega) (by omega)]; omega
        show rec (IntKind.wrap .i64 (((N + j : Nat) : Int) + ((m + 1 : Nat) : Int))) _ _
        rw [ew]
        refine hrec _ _ ⟨j + (m + 1), rfl, by omega, ?_, F4.tr F6⟩ (by simp only [Int.toNat_natCast]; omega)
        rw [hu, ← hcd, List.drop_drop, Option.map_map]
        congr 1
        funext x
        show x + (m + 1) + j = x + (j + (m + 1))
        omega
  rintro n w3 ⟨rfl, hu, F3⟩
  refine out F3 fun w'' F => ⟨?_, F⟩
  rw [hline, hu]
end
end Go.Proofs.YthnfcbjfmghomaaGreatDoor
