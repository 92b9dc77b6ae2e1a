/- The document's tokens: a first token, Scan. No condition. -/
import Derived.Test.YthnfcbjfmghomaaGreatDoorRefZ
import Derived.Test.YthnfcbjfmghomaaGreatDoorPlainA
namespace Go.Proofs.YthnfcbjfmghomaaGreatDoor
open Go.Lift Go.Lex
section
variable {w : World}
/-- a call that reads a token -/
theorem callT_ok {P : Program} {f : FuncId} {args : Array Value} {r : Except Fault (Nat × B × Nat)} {R : Ending → World → Prop} (hc : Calls P f args w (RefP w r)) {k : Int → ByteArray → Int → Int → Int → Int → G}
    (h1 : ∀ (kd n : Nat) (t : B) (w' : World), r = .ok (kd, t, n) → Fr noB w w' → k (kd : Int) (bs t) 0 (n : Int) 0 0 R w') (h2 : ∀ (f : Fault) (w' : World), r = .error f → Fr noB w w' → k 0 ⟨#[]⟩ 0 0 (f.err : Int) (f.at' : Int) R w') :
    callG P f args [.agg [.int .i64, .str, .int .i64], .one (.int .i64), .agg [.int .i64, .int .i64]] k R w := by
  refine call_ok hc ?_
  intro en w' hp
  unfold RefP at hp
  cases hr : r with
  | ok x =>
    obtain ⟨kd, t, n⟩ := x
    rw [hr] at hp
    obtain ⟨rfl, F⟩ := hp
    exact ⟨(((kd : Int), bs t, (0 : Int), ()), (((n : Int), ()), (((0 : Int), (0 : Int), ()), ()))), rfl, h1 kd n t w' hr F⟩
  | error f =>
    rw [hr] at hp
    obtain ⟨rfl, F⟩ := hp
    exact ⟨(((0 : Int), (⟨#[]⟩ : ByteArray), (0 : Int), ()), (((0 : Int), ()), (((f.err : Int), (f.at' : Int), ()), ()))), rfl, h2 f w' hr F⟩
theorem callV4_ok {P : Program} {f : FuncId} {args : Array Value} {ok : Bool} {R : Ending → World → Prop} (hc : Calls P f args w (VerP w ok)) {k : Int → Int → Int → ByteArray → Int → G}
    (h : ∀ (a b c : Int) (t : ByteArray) (w' : World), Fr noB w w' → k a b c t (if ok then 0 else 40) R w') :
    callG P f args [.agg [.int .i64, .int .i64, .int .i64, .str], .one (.int .i64)] k R w := by
  refine call_ok hc ?_
  rintro en w' ⟨a, b, c, t, rfl, F⟩
  exact ⟨((a, b, c, t, ()), (((if ok then 0 else 40 : Int), ()), ())), rfl, h a b c t w' F⟩
set_option maxHeartbeats 4000000 in
theorem first_ok (s : ByteArray) (hne : bl s ≠ []) (hs : s.size ≤ 100000) : Calls Tryz.prog 38 #[.string s] w (RefP w (first (bl s))) := by
  have hsl := bl_length s
  obtain ⟨c, r, hb⟩ := (bl_cases s).resolve_left hne
  have hl : s.size = r.length + 1 := by rw [← hsl, hb]; rfl
  have h0 : (bl s)[0]? = some c := by rw [hb]; rfl
  have hfst : first (bl s) = (if small c || great c then
        (if isWord ((bl s).takeWhile rest) then .ok (5, (bl s).takeWhile rest, ((bl s).takeWhile rest).length) else if isName ((bl s).takeWhile rest) then .ok (1, (bl s).takeWhile rest, ((bl s).takeWhile rest).length) else if isUpper ((bl s).takeWhile rest) then .ok (2, (bl s).takeWhile rest, ((bl s).takeWhile rest).length) else .error ⟨60, 0⟩)
      else if digit c then
        (if Lex.number ((bl s).takeWhile lump) then .ok (3, (bl s).takeWhile lump, ((bl s).takeWhile lump).length) else if verOk ((bl s).takeWhile lump) then .ok (7, (bl s).takeWhile lump, ((bl s).takeWhile lump).length) else .error ⟨60, 0⟩)
      else if c = 34 then (match quotedL 1 r [] with
        | .ok (t, n) => .ok (4, t, n)
        | .error e => .error e)
      else if 2 ≤ (bl s).length ∧ isSign ((bl s).take 2) then .ok (6, (bl s).take 2, 2)
      else if isSign ((bl s).take 1) then .ok (6, (bl s).take 1, 1)
      else .error ⟨60, 0⟩) := by rw [hb]; rfl
  generalize hT : first (bl s) = T at *
  apply c38
  unfold t38
  refine new_ok fun w1 m1 hm1 hs1 B1 F1 => new_ok fun w2 m2 hm2 hs2 B2 F2 => new_ok fun w3 m3 hm3 hs3 B3 F3 => ?_
  refine B3.st (o := 0) rfl (by simp) fun w4 B4 F4 => B4.st (o := 1) rfl (by simp) fun w5 B5 F5 => ?_
  have F35 := F4.sq F5
  have C1 := ((B1.fr F2 (fun h => h)).fr F3 (fun h => h)).fr F35 (fun h => by unfold oneB at h; omega)
  have C2 := (B2.fr F3 (fun h => h)).fr F35 (fun h => by unfold oneB at h; omega)
  have G5 : Fr noB w w5 := ((F1.tr F2).tr F3).then F35 fun y hy h => by unfold oneB at h; omega
  -- the ways out
  have fin : ∀ {w' w'' : World}, Fr noB w5 w' → Fr (fun b => b = m1 ∨ b = m2) w' w'' → Fr noB w w'' := fun F F' => (G5.tr F).then F' fun y hy h => by omega
  have good : ∀ {w' : World} {k n : Nat} {t : B}, T = .ok (k, t, n) → Fr noB w5 w' → _ := fun {w'} {k} {n} {t} h F => tok_ret (k := (k : Int)) (p := 0) (n := (n : Int)) (e := 0) (a := 0) (t := bs t) (R := RefP w T) (C1.fr F (fun h => h)) (C2.fr F (fun h => h)) (by omega) fun w'' F' => by
    unfold RefP
    rw [h]
    exact ⟨rfl, fin F F'⟩
  have bad : ∀ {w' : World}, T = .error ⟨60, 0⟩ → Fr noB w5 w' → _ := fun {w'} h F => bad_ret (R := RefP w T) (C1.fr F (fun h => h)) (C2.fr F (fun h => h)) (B5.fr F (fun h => h)) (by omega) (by omega) fun w'' F' => by
    unfold RefP
    rw [h]
    exact ⟨rfl, fin F F'⟩
  refine chr0_ok h0 ?_
  refine join1_ok (c := .bool) (fun (b : Bool) w' => b = (small c || great c) ∧ Fr noB w5 w') (fun kj hkj => callB_ok (rsmall_ok c) fun w6 F6 => ite_ok (fun h => hkj _ _ ⟨by rw [h]; rfl, F6⟩) fun h => callB_ok (rgreat_ok c) fun w7 F7 => hkj _ _ ⟨by rw [h]; rfl, F6.tr F7⟩) ?_
  rintro b w6 ⟨rfl, F6⟩
  by_cases hal : (small c || great c) = true
  · rw [if_pos hal] at hfst
    refine ite_yes hal (callI_ok (rrest_ok s (by omega)) fun w7 F7 => ?_)
    have htl := tw_len_le rest (bl s)
    refine sub0_ok (j := ((bl s).takeWhile rest).length) (by omega) ?_
    rw [← tw_eq_take]
    generalize (bl s).takeWhile rest = t at *
    have F57 := F6.tr F7
    refine callB_ok (rWord_ok _) fun w8 F8 => ?_
    rw [bl_bs]
    by_cases h1 : isWord t = true
    · rw [if_pos h1] at hfst
      exact ite_yes h1 (good (k := 5) hfst (F57.tr F8))
    rw [if_neg h1] at hfst
    refine ite_no (by simpa using h1) (callB_ok (rName_ok _ (by rw [bs_size]; omega)) fun w9 F9 => ?_)
    rw [bl_bs]
    by_cases h2 : isName t = true
    · rw [if_pos h2] at hfst
      exact ite_yes h2 (good (k := 1) hfst ((F57.tr F8).tr F9))
    rw [if_neg h2] at hfst
    refine ite_no (by simpa using h2) (callB_ok (rUpper_ok _ (by rw [bs_size]; omega)) fun w10 F10 => ?_)
    rw [bl_bs]
    by_cases h3 : isUpper t = true
    · rw [if_pos h3] at hfst
      exact ite_yes h3 (good (k := 2) hfst (((F57.tr F8).tr F9).tr F10))
    rw [if_neg h3] at hfst
    exact ite_no (by simpa using h3) (bad hfst (((F57.tr F8).tr F9).tr F10))
  rw [if_neg hal] at hfst
  refine ite_no (by simpa using hal) (callB_ok (rdigit_ok c) fun w7 F7 => ?_)
  have F57 := F6.tr F7
  by_cases hdg : digit c = true
  · rw [if_pos hdg] at hfst
    refine ite_yes hdg ?_
    refine join1_ok (c := .int .i64) (fun (n : Int) w' => n = ((((bl s).takeWhile lump).length : Nat) : Int) ∧ Fr noB w5 w') (fun kend hkend => ?_) ?_
    · refine count_ok s.size (by omega) (fun k w' => (∀ i x, i < k → (bl s)[i]? = some x → lump x = true) ∧ Fr noB w5 w') (fun rec k w8 hk hI hrec => ?_) ⟨fun i x h => by omega, F57⟩
      obtain ⟨hall, F8⟩ := hI
      refine join1_ok (c := .bool) (fun (b : Bool) w' => Fr noB w5 w' ∧ (b = true → ∃ x, (bl s)[k]? = some x ∧ lump x = true) ∧ (b = false → ∀ x, (bl s)[k]? = some x → lump x = false)) (fun kj hkj => ?_) ?_
      · refine ite_ok (fun hlt => ?_) fun hge => hkj _ _ ⟨F8, (fun e => by cases e), fun _ x hx => ?_⟩
        · have hlt : (k : Int) < s.size := of_decide_eq_true hlt
          obtain ⟨x, hx⟩ : ∃ x, (bl s)[k]? = some x := ⟨_, List.getElem?_eq_getElem (by omega)⟩
          have hr : lump x = (small x || great x || digit x || x == 46 || x == 45) := rfl
          have goal : ∀ {b : Bool} {w' : World}, b = lump x → Fr noB w8 w' → kj b _ w' := fun {b} {w'} hb F => hkj _ _ ⟨F8.tr F, fun e => ⟨x, hx, by rw [← hb, e]⟩, fun e y hy => by rw [hx] at hy; cases hy; rw [← hb, e]⟩
          refine chrC_ok hx (callB_ok (rsmall_ok x) fun w9 F9 => ite_ok (fun h => goal (by rw [hr, h]; rfl) F9) fun h1 => ?_)
          refine chrC_ok hx (callB_ok (rgreat_ok x) fun w10 F10 => ite_ok (fun h => goal (by rw [hr, h1, h]; rfl) (F9.tr F10)) fun h2 => ?_)
          refine chrC_ok hx (callB_ok (rdigit_ok x) fun w11 F11 => ite_ok (fun h => goal (by rw [hr, h1, h2, h]; rfl) ((F9.tr F10).tr F11)) fun h3 => ?_)
          refine chrC_ok hx ?_
          rw [u8_lit x 46 (z := 46) rfl]
          refine ite_ok (fun h => goal (by rw [hr, h1, h2, h3, h]; rfl) ((F9.tr F10).tr F11)) fun h4 => chrC_ok hx (goal ?_ ((F9.tr F10).tr F11))
          rw [u8_lit x 45 (z := 45) rfl, hr, h1, h2, h3, h4]
          rfl
        · have hge : ¬ (k : Int) < s.size := of_decide_eq_false hge
          have := (List.getElem?_eq_some_iff.1 hx).1
          omega
      rintro b w9 ⟨F9, ht, hf⟩
      refine ite_ok (fun h => ?_) fun h => hkend _ _ ⟨?_, F9⟩
      · obtain ⟨x, hx, hr⟩ := ht h
        have hlt : k < s.size := by have := (List.getElem?_eq_some_iff.1 hx).1; omega
        refine hrec hlt _ ⟨fun i y hi hy => ?_, F9⟩
        rcases Nat.lt_succ_iff_lt_or_eq.1 hi with hi | rfl
        · exact hall i y hi hy
        · rw [hx] at hy
          cases hy
          exact hr
      · rw [takeWhile_at (k := k) hall (by omega) (hf h), List.length_take]
        congr 1
        omega
    rintro n w8 ⟨rfl, F8⟩
    have htl := tw_len_le lump (bl s)
    have hsub : ∀ {K : ByteArray → G} {R : Ending → World → Prop} {w' : World}, K (bs ((bl s).takeWhile lump)) R w' → subG s 0 ((((bl s).takeWhile lump).length : Nat) : Int) K R w' := fun h => sub0_ok (j := ((bl s).takeWhile lump).length) (by omega) (by rw [← tw_eq_take]; exact h)
    have htne : (bl s).takeWhile lump ≠ [] := by
      rw [hb, List.takeWhile_cons, if_pos (by unfold lump; rw [hdg]; simp)]
      simp
    generalize (bl s).takeWhile lump = t at *
    refine hsub (callV4_ok (rParse_ok _ (by rw [bs_size]; omega)) fun a b c' tt w9 F9 => ?_)
    rw [bl_bs]
    refine new_ok fun w10 m59 hm59 hs10 B10 F10 => B10.st (o := 0) rfl (by simp) fun w11 B11 F11 => B11.st (o := 1) rfl (by simp) fun w12 B12 F12 => B12.st (o := 2) rfl (by simp) fun w13 B13 F13 => B13.st (o := 3) rfl (by simp) fun w14 B14 F14 => ?_
    have F914 : Fr noB w9 w14 := F10.then (((F11.sq F12).sq F13).sq F14) fun y hy h => by unfold oneB at h; omega
    have F514 := (F8.tr F9).tr F914
    refine hsub (callB_ok (rnumber_ok _ (by rw [bs_size]; omega) (by rw [bl_bs]; exact htne)) fun w15 F15 => ?_)
    rw [bl_bs]
    by_cases h1 : Lex.number t = true
    · rw [if_pos h1] at hfst
      exact ite_yes h1 (hsub (good (k := 3) hfst (F514.tr F15)))
    rw [if_neg h1] at hfst
    refine ite_no (by simpa using h1) ?_
    by_cases h2 : verOk t = true
    · rw [if_pos h2] at hfst
      exact ite_yes (by rw [h2]; rfl) (hsub (good (k := 7) hfst (F514.tr F15)))
    rw [if_neg h2] at hfst
    have h2' : verOk t = false := by simpa using h2
    exact ite_no (by rw [h2']; rfl) (bad hfst (F514.tr F15))
  rw [if_neg hdg] at hfst
  refine ite_no (by simpa using hdg) ?_
  rw [u8_lit c 34 (z := 34) rfl]
  by_cases h34 : c = 34
  · subst h34
    rw [if_pos rfl] at hfst
    refine ite_yes rfl (callT_ok (rquoted_ok s r hb hs) (fun kd n t w8 hr F8 => ?_) fun f w8 hr F8 => ?_)
    · exact good (hfst.trans hr) (F57.tr F8)
    · have F58 := F57.tr F8
      refine tok_ret (k := 0) (p := 0) (n := 0) (e := (f.err : Int)) (a := (f.at' : Int)) (t := ⟨#[]⟩) (R := RefP w T) (C1.fr F58 (fun h => h)) (C2.fr F58 (fun h => h)) (by omega) fun w'' F' => ?_
      unfold RefP
      rw [hfst.trans hr]
      exact ⟨rfl, fin F58 F'⟩
  rw [if_neg h34] at hfst
  refine ite_no (by simpa using h34) ?_
  refine join1_ok (c := .bool) (fun (b : Bool) w' => (b = true ↔ (2 ≤ (bl s).length ∧ isSign ((bl s).take 2) = true)) ∧ Fr noB w5 w') (fun kj hkj => ?_) ?_
  · refine ite_ok (fun h2 => ?_) fun h2 => hkj _ _ ⟨⟨fun h => (by cases h), fun h => ?_⟩, F57⟩
    · have h2 : (s.size : Int) ≥ 2 := of_decide_eq_true h2
      refine sub0_ok (j := 2) (by omega) (callB_ok (rSign_ok _) fun w8 F8 => hkj _ _ ⟨?_, F57.tr F8⟩)
      rw [bl_bs]
      exact ⟨fun h => ⟨by omega, h⟩, fun h => h.2⟩
    · have h2 : ¬ (s.size : Int) ≥ 2 := of_decide_eq_false h2
      omega
  rintro b w8 ⟨hb8, F8⟩
  by_cases h2 : 2 ≤ (bl s).length ∧ isSign ((bl s).take 2) = true
  · rw [if_pos h2] at hfst
    refine ite_yes (hb8.2 h2) (sub0_ok (j := 2) (by omega) (good (k := 6) hfst F8))
  rw [if_neg h2] at hfst
  refine ite_no (by rw [Bool.eq_false_iff]; exact fun h => h2 (hb8.1 h)) (sub0_ok (j := 1) (by omega) (callB_ok (rSign_ok _) fun w9 F9 => ?_))
  rw [bl_bs]
  by_cases h1 : isSign ((bl s).take 1) = true
  · rw [if_pos h1] at hfst
    exact ite_yes h1 (sub0_ok (j := 1) (by omega) (good (k := 6) hfst (F8.tr F9)))
  rw [if_neg h1] at hfst
  exact ite_no (by simpa using h1) (bad hfst (F8.tr F9))
/-- a call that answers a number and a fault -/
theorem callPN_ok {P : Program} {f : FuncId} {args : Array Value} {r : Except Fault Nat} {R : Ending → World → Prop} (hc : Calls P f args w fun e w' => (match r with
    | .ok n => e = .returned (.tuple #[.int .i64 (n : Int), .agg #[.int .i64 0, .int .i64 0]])
    | .error f => e = .returned (.tuple #[.int .i64 0, .agg #[.int .i64 (f.err : Int), .int .i64 (f.at' : Int)]])) ∧ Fr noB w w') {k : Int → Int → Int → G}
    (h1 : ∀ (n : Nat) (w' : World), r = .ok n → Fr noB w w' → k (n : Int) 0 0 R w') (h2 : ∀ (f : Fault) (w' : World), r = .error f → Fr noB w w' → k 0 (f.err : Int) (f.at' : Int) R w') :
    callG P f args [.one (.int .i64), .agg [.int .i64, .int .i64]] k R w := by
  refine call_ok hc ?_
  intro en w' hp
  cases hr : r with
  | ok n =>
    rw [hr] at hp
    obtain ⟨rfl, F⟩ := hp
    exact ⟨(((n : Int), ()), (((0 : Int), (0 : Int), ()), ())), rfl, h1 n w' hr F⟩
  | error f =>
    rw [hr] at hp
    obtain ⟨rfl, F⟩ := hp
    exact ⟨(((0 : Int), ()), (((f.err : Int), (f.at' : Int), ()), ())), rfl, h2 f w' hr F⟩
set_option maxHeartbeats 4000000 in
theorem rScan_ok (s : ByteArray) : Calls Tryz.prog 20 #[.string s] w (ScanP w s) := by
  have hsl := bl_length s
  obtain ⟨ti, z, hi, hz, e1, e2, e3⟩ := rTok
  apply c20
  unfold t20
  refine new_ok fun w1 m1 hm1 hs1 M1 F1 => ite_ok (fun hbig => ?_) fun hsmall => ?_
  · have hbig : (s.size : Int) > 4096 := of_decide_eq_true hbig
    refine M1.st (o := 0) rfl (by simp) fun w2 M2 F2 => M2.st (o := 1) rfl (by simp) fun w3 M3 F3 => M3.ld (c := .int .i64) (x := 3) (o := 0) rfl (M3.ld (c := .int .i64) (x := 4096) (o := 1) rfl ?_)
    show ScanP w s _ _
    unfold ScanP
    rw [scan_big (by omega)]
    exact ⟨rfl, F1.then (F2.sq F3) fun y hy h => by unfold oneB at h; omega⟩
  have hsmall : ¬ (s.size : Int) > 4096 := of_decide_eq_false hsmall
  have hscan := scan_L (s := bl s) (by omega)
  -- the way out with a fault
  have out : ∀ {w' : World} {e a : Nat}, scan (bl s) = .error ⟨e, a⟩ → Fr noB w1 w' →
      stG ⟨m1, 0, none⟩ (.int .i64 (e : Int)) (stG ⟨m1, 1, none⟩ (.int .i64 (a : Int)) (ldG (.int .i64) ⟨m1, 0, none⟩ (fun (n17 : Int) => ldG (.int .i64) ⟨m1, 1, none⟩ (fun (n18 : Int) => retG (.tuple #[.slice none 0 0, .agg #[.int .i64 n17, .int .i64 n18]]))))) (ScanP w s) w' := fun {w'} {e} {a} h F => by
    refine (M1.fr F (fun h => h)).st (o := 0) rfl (by simp) fun w2 M2 F2 => M2.st (o := 1) rfl (by simp) fun w3 M3 F3 => M3.ld (c := .int .i64) (x := (e : Int)) (o := 0) rfl (M3.ld (c := .int .i64) (x := (a : Int)) (o := 1) rfl ?_)
    show ScanP w s _ _
    unfold ScanP
    rw [h]
    exact ⟨rfl, (F1.tr F).then (F2.sq F3) fun y hy h => by unfold oneB at h; omega⟩
  refine join1_ok (c := .slice) (fun (l : Sl) w' => ∃ acc : List Tok, scan (bl s) = .ok (acc ++ [⟨0, [], s.size⟩]) ∧ acc.length ≤ s.size ∧ w'.ownsRow w1.heap.size 32 3 (.slice l.a l.n l.c) acc.length (acc.flatMap tokCells) ∧ Fr noB w1 w') (fun k4 hk4 => ?_) ?_
  · refine loop_ok (vs := [.one .slice, .one (.int .i64)]) (fun xs w' => ∃ (i : Nat) (acc : List Tok), (show Int from xs.2.1.1) = (i : Int) ∧ i ≤ s.size ∧ acc.length ≤ i ∧ scan (bl s) = scanL i ((bl s).drop i) acc ∧
        w'.ownsRow w1.heap.size 32 3 (.slice (show Sl from xs.1.1).a (show Sl from xs.1.1).n (show Sl from xs.1.1).c) acc.length (acc.flatMap tokCells) ∧ Fr noB w1 w')
      (fun xs => s.size - (show Int from xs.2.1.1).toNat) ?_ (xs := (((⟨none, 0, 0⟩ : Sl), ()), (((0 : Int), ()), ()))) ⟨0, [], rfl, Nat.zero_le _, Nat.le_refl _, hscan, ⟨rfl, .inl ⟨rfl, rfl⟩⟩, Fr.refl _ _⟩
    rintro rec ⟨⟨l6, ⟨⟩⟩, ⟨⟨i', ⟨⟩⟩, ⟨⟩⟩⟩ w2 ⟨i, acc, hi', his, hal, hq, hown, F2⟩ hrec
    change Sl at l6
    change Int at i'
    change i' = _ at hi'
    subst hi'
    change w2.ownsRow _ _ _ (.slice l6.a l6.n l6.c) _ _ at hown
    refine ite_ok (fun hlt => ?_) fun hge => hk4 _ _ ⟨acc, ?_, by omega, hown, F2⟩
    rotate_left
    · have hge : ¬ (i : Int) < s.size := of_decide_eq_false hge
      rw [hq, List.drop_of_length_le (by omega), scanL_nil, show i = s.size by omega]
    have hlt : (i : Int) < s.size := of_decide_eq_true hlt
    have next : ∀ {l : Sl} {w' : World} {j : Nat} {acc' : List Tok}, i < j → j ≤ s.size → acc'.length ≤ j → scan (bl s) = scanL j ((bl s).drop j) acc' → w'.ownsRow w1.heap.size 32 3 (.slice l.a l.n l.c) acc'.length (acc'.flatMap tokCells) → Fr noB w1 w' →
        uncV rec ((l, ()), (((j : Int), ()), ())) _ w' := fun {l} {w'} {j} {acc'} h1 h2 h3 h4 h5 h6 => hrec _ _ ⟨j, acc', rfl, h2, h3, h4, h5, h6⟩ (by show s.size - ((j : Nat) : Int).toNat < s.size - ((i : Nat) : Int).toNat; simp only [Int.toNat_natCast]; omega)
    have hdl : ((bl s).drop i).length = s.size - i := by rw [List.length_drop, hsl]
    refine join_in (vs := [.one .slice, .one (.int .i64)]) (subE_ok (i := i) (by omega) (callPN_ok (passed_ok _ (by rw [bs_size, hdl]; omega)) (fun n w3 hr F3 => ?_) fun f w3 hr F3 => ?_))
    rotate_left
    · rw [bl_bs] at hr
      obtain ⟨he, hf0, hfa⟩ := scanL_passE (i := i) (acc := acc) hr
      refine new_ok fun w4 m13 hm13 hs4 B4 F4 => B4.st (o := 0) rfl (by simp) fun w5 B5 F5 => B5.st (o := 1) rfl (by simp) fun w6 B6 F6 => ?_
      refine B6.ld (c := .int .i64) (x := (f.err : Int)) (o := 0) rfl (ite_yes (by rw [bne_iff_ne]; omega) (drew_ok fun w7 F7 z7 => ?_))
      have B7 := B6.fr F7 (fun h => h)
      refine B7.ld (c := .int .i64) (x := (f.err : Int)) (o := 0) rfl (B7.ld (c := .int .i64) (x := (f.at' : Int)) (o := 1) rfl ?_)
      have ew : IntKind.wrap .i64 ((i : Int) + (f.at' : Int)) = ((i + f.at' : Nat) : Int) := by rw [wrap_ok (by omega) (by omega)]; omega
      rw [ew]
      exact out (hq.trans he) ((F2.tr F3).tr ((F4.then (F5.sq F6) fun y hy h => by unfold oneB at h; omega).tr F7))
    rw [bl_bs] at hr
    obtain ⟨hpass, hnl⟩ := scanL_pass (i := i) (acc := acc) hr
    refine new_ok fun w4 m13 hm13 hs4 B4 F4 => B4.st (o := 0) rfl (by simp) fun w5 B5 F5 => B5.st (o := 1) rfl (by simp) fun w6 B6 F6 => ?_
    have F36 : Fr noB w3 w6 := F4.then (F5.sq F6) fun y hy h => by unfold oneB at h; omega
    have F26 := F3.tr F36
    refine B6.ld (c := .int .i64) (x := 0) (o := 0) rfl (ite_no rfl ?_)
    by_cases hn : 0 < n
    · refine ite_yes (decide_eq_true (by omega)) ?_
      have ew : IntKind.wrap .i64 ((i : Int) + (n : Int)) = ((i + n : Nat) : Int) := by rw [wrap_ok (by omega) (by omega)]; omega
      rw [ew]
      exact next (j := i + n) (by omega) (by omega) (by omega) (by rw [hq, hpass, List.drop_drop]) (own_fr0 hown F26) (F2.tr F26)
    have hn0 : n = 0 := by omega
    subst hn0
    refine ite_no (decide_eq_false (by omega)) ?_
    obtain ⟨c, r, hcr⟩ : ∃ c r, (bl s).drop i = c :: r := by
      cases hx : (bl s).drop i with
      | nil => rw [hx] at hdl; simp at hdl; omega
      | cons c r => exact ⟨c, r, rfl⟩
    rw [hcr] at hr hq hdl
    obtain ⟨p1, p2⟩ := pass0 hr
    rw [scanL_tok p1 p2] at hq
    refine subE_ok (i := i) (by omega) (callT_ok (first_ok _ (by rw [bl_bs, hcr]; simp) (by rw [bs_size, hcr, hdl]; omega)) (fun kd n t w7 hf F7 => ?_) fun f w7 hf F7 => ?_)
    · rw [bl_bs, hcr] at hf
      have hpos := first_pos hf
      rw [hf] at hq
      refine new_ok fun w8 m26 hm26 hs8 B8 F8 => B8.st (o := 0) rfl (by simp) fun w9 B9 F9 => B9.st (o := 1) rfl (by simp) fun w10 B10 F10 => B10.st (o := 2) rfl (by simp) fun w11 B11 F11 => ?_
      have F811 := (F9.sq F10).sq F11
      have hs67 := F7.size
      have B6' := ((B6.fr F7 (fun h => h)).fr F8 (fun h => h)).fr F811 (fun h => by have := B6.lt; unfold oneB at h; omega)
      refine B6'.st (o := 0) rfl (by simp) fun w12 B12 F12 => B12.st (o := 1) rfl (by simp) fun w13 B13 F13 => B13.ld (c := .int .i64) (x := 0) (o := 0) rfl (ite_no rfl ?_)
      have F1113 := F12.sq F13
      have B11' := B11.fr F1113 (fun h => by have := B6.lt; unfold oneB at h; omega)
      refine B11'.st (o := 2) rfl (by simp) fun w14 B14 F14 => ?_
      refine B14.ld (c := .int .i64) (x := (kd : Int)) (o := 0) rfl (B14.ld (c := .str) (x := bs t) (o := 1) rfl (B14.ld (c := .int .i64) (x := (i : Int)) (o := 2) rfl (new_ok fun w15 m35 hm35 hs15 B15 F15 => ?_)))
      have hm13 : w2.heap.size ≤ m13 := by have := F3.size; omega
      have h6 := F36.size
      have h3 := F3.size
      have F214 : Fr noB w2 w14 := (((F26.tr F7).tr F8).then F811 fun y hy h => by unfold oneB at h; omega).then ((F1113.mono fun _ _ h => Or.inl h : Fr (fun b => oneB m13 b ∨ oneB m26 b) w11 w13).then F14 fun _ _ h => Or.inr h) fun y hy h => by unfold oneB at h; omega
      have F215 := F214.tr F15
      have hown15 := own_fr0 hown F215
      refine appendC_ok uToks hi hz e1 e2 (by rw [e3]; rfl) (by omega) (s := l6) hown15 (m := 1) (news := tokCells ⟨kd, t, i⟩) rfl (B15.held fun j v hj => by rw [Nat.zero_add]; exact hj) (fun u hu => ?_) (by unfold maxLen; omega) (by omega) (by have := (F2.tr F215).size; omega) fun l36 w16 hown16 F16 => ?_
      · simp only [tokCells, List.mem_cons, List.not_mem_nil, or_false] at hu
        rcases hu with rfl | rfl | rfl <;> rfl
      have ew : IntKind.wrap .i64 ((i : Int) + (n : Int)) = ((i + n : Nat) : Int) := by rw [wrap_ok (by omega) (by omega)]; omega
      rw [ew]
      refine next (j := i + n) (acc' := acc ++ [⟨kd, t, i⟩]) (by omega) (by omega) (by rw [List.length_append, List.length_singleton]; omega) ?_ ?_ ((F2.tr F215).then F16 fun y hy h => by have := (hown15.lt y h).1; omega)
      · rw [hq, ← hcr]
        simp only [List.drop_drop]
      · rw [List.length_append, List.flatMap_append]
        simpa using hown16
    · rw [bl_bs, hcr] at hf
      have hf0 := first_err hf
      have hfa := first_err_at (by simp) hf
      rw [hf] at hq
      refine new_ok fun w8 m26 hm26 hs8 B8 F8 => B8.st (o := 0) rfl (by simp) fun w9 B9 F9 => B9.st (o := 1) rfl (by simp) fun w10 B10 F10 => B10.st (o := 2) rfl (by simp) fun w11 B11 F11 => ?_
      have F811 := (F9.sq F10).sq F11
      have hs67 := F7.size
      have B6' := ((B6.fr F7 (fun h => h)).fr F8 (fun h => h)).fr F811 (fun h => by have := B6.lt; unfold oneB at h; omega)
      refine B6'.st (o := 0) rfl (by simp) fun w12 B12 F12 => B12.st (o := 1) rfl (by simp) fun w13 B13 F13 => B13.ld (c := .int .i64) (x := (f.err : Int)) (o := 0) rfl (ite_yes (by rw [bne_iff_ne]; omega) (drew_ok fun w14 F14 z14 => ?_))
      have B14 := B13.fr F14 (fun h => h)
      refine B14.ld (c := .int .i64) (x := (f.err : Int)) (o := 0) rfl (B14.ld (c := .int .i64) (x := (f.at' : Int)) (o := 1) rfl ?_)
      have ew : IntKind.wrap .i64 ((i : Int) + (f.at' : Int)) = ((i + f.at' : Nat) : Int) := by rw [wrap_ok (by omega) (by omega)]; omega
      rw [ew]
      have hm13 : w2.heap.size ≤ m13 := by have := F3.size; omega
      refine out hq (F2.tr (((((F26.tr F7).tr F8).then F811 fun y hy h => ?_).then (F12.sq F13) fun y hy h => ?_).tr F14))
      · have := F36.size
        have := F3.size
        unfold oneB at h
        omega
      · unfold oneB at h
        omega
  rintro l39 w2 ⟨acc, hsc, hal, hown, F2⟩
  refine new_ok fun w3 m40 hm40 hs3 B3 F3 => ?_
  have hown3 := own_fr0 hown F3
  refine appendC_ok uToks hi hz e1 e2 (by rw [e3]; rfl) (by omega) (s := l39) hown3 (m := 1) (news := tokCells ⟨0, [], s.size⟩) rfl (B3.held fun j v hj => by rw [Nat.zero_add]; exact hj) (fun u hu => ?_) (by unfold maxLen; omega) (by omega) (by have := (F2.tr F3).size; omega) fun l41 w4 hown4 F4 => ?_
  · simp only [tokCells, List.mem_cons, List.not_mem_nil, or_false] at hu
    rcases hu with rfl | rfl | rfl <;> rfl
  have F14 : Fr noB w1 w4 := (F2.tr F3).then F4 fun y hy h => by have := (hown3.lt y h).1; omega
  refine (M1.fr F14 (fun h => h)).st (o := 0) rfl (by simp) fun w5 M5 F5 => M5.st (o := 1) rfl (by simp) fun w6 M6 F6 => M6.ld (c := .int .i64) (x := 0) (o := 0) rfl (M6.ld (c := .int .i64) (x := 0) (o := 1) rfl ?_)
  show ScanP w s _ _
  unfold ScanP
  rw [hsc]
  have F46 := F5.sq F6
  refine ⟨⟨l41, rfl, ?_⟩, (F1.tr F14).then F46 fun y hy h => by unfold oneB at h; omega⟩
  rw [List.length_append, List.flatMap_append]
  have := own_mono (own_fr hown4 F46 fun b hb h => by have := (hown4.lt b hb).1; unfold oneB at h; omega) (base' := w.heap.size) (by omega)
  simpa using this
end
end Go.Proofs.YthnfcbjfmghomaaGreatDoor
