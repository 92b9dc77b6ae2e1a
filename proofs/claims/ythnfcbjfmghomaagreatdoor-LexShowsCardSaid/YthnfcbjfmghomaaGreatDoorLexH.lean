/- A version read. No condition. -/
import Derived.Test.YthnfcbjfmghomaaGreatDoorLexG
import Derived.Test.YthnfcbjfmghomaaGreatDoorLexD
import Derived.Lib.SmallJoins
namespace Go.Proofs.YthnfcbjfmghomaaGreatDoor
open Go.Lift Go.Lex
section
variable {w : World} {R : Ending → World → Prop}
theorem zero4_ok {m : Nat} {t : TypeId} {v0 v1 v2 v3 : Value} {c : Int} (B1 : Blk w m t [v0, v1, v2, v3])
    (h : ∀ w', Fr (oneB m) w w' → R (.returned (.tuple #[.agg #[.int .i64 0, .int .i64 0, .int .i64 0, .string ⟨#[]⟩], .int .i64 c])) w') :
    stG (Addr.mk m 0 Option.none) (Value.int IntKind.i64 (0 : Int)) (stG (Addr.mk m 1 Option.none) (Value.int IntKind.i64 (0 : Int)) (stG (Addr.mk m 2 Option.none) (Value.int IntKind.i64 (0 : Int)) (stG (Addr.mk m 3 Option.none) (Value.string (ByteArray.mk #[]))
      (ldG (CT.int IntKind.i64) (Addr.mk m 0 Option.none) (fun (n8 : Int) => ldG (CT.int IntKind.i64) (Addr.mk m 1 Option.none) (fun (n9 : Int) => ldG (CT.int IntKind.i64) (Addr.mk m 2 Option.none) (fun (n10 : Int) => ldG CT.str (Addr.mk m 3 Option.none)
        (fun (s11 : ByteArray) => retG (Value.tuple #[(Value.agg #[(Value.int IntKind.i64 n8), (Value.int IntKind.i64 n9), (Value.int IntKind.i64 n10), (Value.string s11)]), (Value.int IntKind.i64 c)]))))))))) R w := by
  refine B1.st (o := 0) rfl (by simp) fun w1 B1 F1 => B1.st (o := 1) rfl (by simp) fun w2 B2 F2 => B2.st (o := 2) rfl (by simp) fun w3 B3 F3 => B3.st (o := 3) rfl (by simp) fun w4 B4 F4 => ?_
  exact B4.ld (o := 0) rfl (B4.ld (o := 1) rfl (B4.ld (o := 2) rfl (B4.ld (c := .str) (o := 3) rfl (h _ (((F1.sq F2).sq F3).sq F4)))))
theorem atoi_ok (p : ByteArray) (h : digits (bl p) = true) (h6 : p.size ≤ 6) {k : Int → Value → G} (hk : ∀ (v : Nat) w', v ≤ 999999 → Fr noB w w' → k (v : Int) .nilIface R w') :
    callG Tryz.prog 74 #[.string p] [.one (.int .i64), .one .any] k R w := by
  have hpl := bl_length p
  obtain ⟨v, hv, hv6⟩ := atoi_digits h (by omega)
  refine call_ok (Tryz.strconv_Atoi p v (by omega) hv w) ?_
  rintro _ w' ⟨rfl, t, rfl⟩
  exact ⟨((v, ()), (.nilIface, ()), ()), rfl, hk v _ hv6 (fr_below (Joins.below_bytesWorld _ w _ t (Nat.le_refl _)))⟩

set_option maxHeartbeats 2000000 in
theorem Parse_ok (s : ByteArray) (hs : s.size ≤ 1000000) (hg : Glob w) : Calls Tryz.prog 51 #[.string s] w fun e w' =>
    (∃ (x0 x1 x2 : Int) (p : ByteArray), e = .returned (.tuple #[.agg #[.int .i64 x0, .int .i64 x1, .int .i64 x2, .string p], .int .i64 (if verOk (bl s) then 0 else 40)])) ∧ Fr noB w w' := by
  have hsl := bl_length s
  have hver := verOk_eq (bl s)
  have htw := ((bl s).takeWhile_sublist (· != 45)).length_le
  apply c51
  unfold t51
  refine new_ok fun w1 m1 hm1 hs1 B1 F1 => ?_
  refine call_ok (cut_ok s (by omega) (hg.fr F1)) ?_
  rintro _ w2 ⟨rfl, F2⟩
  generalize hcore : (bl s).takeWhile (· != 45) = core at *
  generalize htail : (bl s).drop core.length = tail at *
  have hpre : tail.tail.length ≤ (bl s).length := by rw [← htail, List.length_tail, List.length_drop]; omega
  refine ⟨((bs core, ()), (bs tail.tail, ()), (!tail.isEmpty, ()), ()), rfl, ?_⟩
  have F12 := F1.tr F2
  have hcs := bs_size core
  refine callSl_ok (split_ok (bs core) (by omega) (hg.fr F12)) fun l5 w3 ⟨hR, F3⟩ => ?_
  rw [bl_bs] at hR
  have hn := hR.1
  rw [List.length_map] at hn
  have F13 := F12.tr F3
  have B3 := (B1.fr F2 (fun h => h)).fr F3 (fun h => h)
  have hm3 := B3.lt
  have bad : ∀ {w' : World} {x : Int}, verOk (bl s) = false → x = 40 → Fr noB w w' → (∃ (x0 x1 x2 : Int) (p : ByteArray), (Ending.returned (.tuple #[.agg #[.int .i64 0, .int .i64 0, .int .i64 0, .string ⟨#[]⟩], .int .i64 x])) = .returned (.tuple #[.agg #[.int .i64 x0, .int .i64 x1, .int .i64 x2, .string p], .int .i64 (if verOk (bl s) then 0 else 40)])) ∧ Fr noB w w' :=
    fun h hx F => ⟨⟨0, 0, 0, ⟨#[]⟩, by rw [h, hx]; rfl⟩, F⟩
  have one : ∀ {w' w'' : World}, Fr noB w w' → Fr (oneB m1) w' w'' → Fr noB w w'' := fun F G => F.then G fun y hy h => by unfold oneB at h; omega
  refine join1_ok (c := .bool) (fun (b : Bool) w' => b = !(decide ((parts core).length = 3) && (tail.isEmpty || !tail.tail.isEmpty)) ∧ w' = w3) (fun k hk => ?_) ?_
  · rw [eq_bl, bl_bs, bl_empty]
    by_cases h3 : (parts core).length = 3
    · refine ite_no (by rw [hn, h3]; rfl) (ite_ok (fun h => hk _ _ ⟨?_, rfl⟩) fun h => hk _ _ ⟨?_, rfl⟩)
      · have h : tail.isEmpty = false := by rwa [Bool.not_eq_true'] at h
        rw [h, decide_eq_true h3]
        cases tail.tail <;> rfl
      · have h : tail.isEmpty = true := by rwa [Bool.not_eq_false'] at h
        rw [h, decide_eq_true h3]
        rfl
    · refine ite_yes ?_ (hk _ _ ⟨by rw [decide_eq_false h3]; rfl, rfl⟩)
      rw [hn, bne_iff_ne]
      omega
  rintro b w' ⟨rfl, hw⟩
  replace hw := hw.symm
  subst hw
  refine ite_ok (fun h => zero4_ok B3 fun w' G => ?_) fun h => ?_
  · rw [Bool.not_eq_true'] at h
    refine bad ?_ rfl (one F13 G)
    rw [hver]
    revert h
    generalize decide ((parts core).length = 3) = x
    generalize (tail.isEmpty || !tail.tail.isEmpty) = y
    cases x <;> cases y <;> simp
  rw [Bool.not_eq_false', Bool.and_eq_true] at h
  obtain ⟨h3, hc⟩ := h
  rw [h3, hc, Bool.true_and, Bool.and_true] at hver
  have h3 := of_decide_eq_true h3
  refine new_ok fun w4 m12 hm12 hs4 B12 F4 => ?_
  have hm := F1.size
  refine join0_ok (fun w' => (parts core).all numOk = true ∧ (∃ xs : List Int, xs.length = 3 ∧ (∀ x ∈ xs, 0 ≤ x ∧ x ≤ 999999) ∧ Blk w' m12 101 (xs.map (.int .i64))) ∧ Fr (oneB m12) w4 w') (fun kend hkend => ?_) ?_
  · refine count_ok l5.n (by omega) (fun k w' => (∀ i x, i < k → (parts core)[i]? = some x → numOk x = true) ∧ (∃ xs : List Int, xs.length = 3 ∧ (∀ x ∈ xs, 0 ≤ x ∧ x ≤ 999999) ∧ Blk w' m12 101 (xs.map (.int .i64))) ∧ Fr (oneB m12) w4 w') (fun rec k w5 hk hI hrec => ?_)
      ⟨fun i x h => by omega, ⟨[0, 0, 0], rfl, by simp, B12⟩, Fr.refl _ _⟩
    obtain ⟨hall, ⟨xs, hxl, hxr, B5⟩, F5⟩ := hI
    have F35 : Fr noB w3 w5 := F4.then F5 fun y hy h => by unfold oneB at h; omega
    refine ite_ok (fun hlt => ?_) fun hge => hkend _ ⟨?_, ⟨xs, hxl, hxr, B5⟩, F5⟩
    · have hlt : k < l5.n := by have : (k : Int) < (l5.n : Int) := of_decide_eq_true hlt
                                omega
      obtain ⟨x, a, hx, ha, hc, hidx⟩ := hR.at (k := k) (by rw [List.length_map]; omega)
      rw [List.getElem?_map, Option.map_eq_some_iff] at hx
      obtain ⟨y, hy, rfl⟩ := hx
      rw [ha]
      have hyl : y.length ≤ core.length := parts_each y (List.mem_of_getElem? hy)
      have hys := bs_size y
      refine join_in (hidx (ld_ok (c := .str) (hc _ F35) ?_))
      have hnum : numOk y = (digits y && decide (y.length ≤ 6) && (decide (y.length ≤ 1) || y.head? != some 48)) := rfl
      refine join1_ok (c := .bool) (fun (b : Bool) w' => b = !numOk y ∧ Fr noB w5 w') (fun kj hkj => ?_) ?_
      · refine callB_ok (digits_ok (bs y) (by omega)) fun w6 F6 => ?_
        rw [bl_bs]
        refine ite_ok (fun h => hkj _ _ ⟨?_, F6⟩) fun h => ite_ok (fun h6 => hkj _ _ ⟨?_, F6⟩) fun h6 => ite_ok (fun h1 => ?_) fun h1 => hkj _ _ ⟨?_, F6⟩
        · rw [Bool.not_eq_true'] at h
          rw [hnum, h]
          rfl
        · have h6 : ((bs y).size : Int) > 6 := of_decide_eq_true h6
          rw [hnum, decide_eq_false (p := y.length ≤ 6) (by omega), Bool.and_false]
          rfl
        · have h1 : ((bs y).size : Int) > 1 := of_decide_eq_true h1
          have h6 : ¬ ((bs y).size : Int) > 6 := of_decide_eq_false h6
          rw [Bool.not_eq_false'] at h
          refine chr_ok (i := 0) (by omega) (hkj _ _ ⟨?_, F6⟩)
          rw [hnum, h, decide_eq_true (p := y.length ≤ 6) (by omega), decide_eq_false (p := y.length ≤ 1) (by omega)]
          cases y with
          | nil => simp only [List.length_nil] at hys; omega
          | cons c r =>
            have e0 : (bl (bs (c :: r)))[0]'(by rw [bl_length]; omega) = c := by simp [bl_bs]
            rw [e0, u8_lit c 48 (z := 48) rfl]
            by_cases hc : c = 48
            · subst hc; rfl
            · rw [beq_eq_false_iff_ne.2 hc]; simp only [List.head?_cons, Bool.true_and, Bool.false_or]; simp [hc]
        · have h1 : ¬ ((bs y).size : Int) > 1 := of_decide_eq_false h1
          rw [Bool.not_eq_false'] at h
          rw [hnum, h, decide_eq_true (p := y.length ≤ 6) (by omega), decide_eq_true (p := y.length ≤ 1) (by omega)]
          rfl
      rintro b w6 ⟨rfl, F6⟩
      have F36 := F35.tr F6
      have B36 := B3.fr F36 (fun h => h)
      have B6 := B5.fr F6 (fun h => h)
      refine ite_ok (fun h => zero4_ok B36 fun w' G => bad ?_ rfl (one (F13.tr F36) G)) fun h => ?_
      · rw [Bool.not_eq_true'] at h
        have : (parts core).all numOk = false := by
          rw [Bool.eq_false_iff]
          intro e
          have := List.all_eq_true.1 e y (List.mem_of_getElem? hy)
          rw [h] at this
          cases this
        rw [hver, this]
        rfl
      rw [Bool.not_eq_false'] at h
      have hh := h
      rw [hnum] at hh
      simp only [Bool.and_eq_true, decide_eq_true_eq] at hh
      refine atoi_ok (bs y) (by rw [bl_bs]; exact hh.1.1) (by omega) fun v w7 hv F7 => ?_
      have B7 := B6.fr F7 (fun h => h)
      refine idxB_ok (i := k) (by omega) ?_
      rw [Nat.zero_add, Nat.mul_one]
      refine B7.st rfl (by rw [List.length_map]; omega) fun w8 B8 F8 => hrec hlt _ ⟨fun i z hi hz => ?_, ⟨xs.set k v, by rw [List.length_set]; exact hxl, fun x hx => ?_, ?_⟩, ((F5.then F6 fun _ _ h => h.elim).then F7 fun _ _ h => h.elim).sq F8⟩
      · rcases Nat.lt_succ_iff_lt_or_eq.1 hi with hi | rfl
        · exact hall i z hi hz
        · rw [hy] at hz
          cases hz
          exact h
      · rcases List.mem_or_eq_of_mem_set hx with hx | rfl
        · exact hxr x hx
        · omega
      · rw [List.map_set]
        exact B8
    · have hge : ¬ (k : Int) < (l5.n : Int) := of_decide_eq_false hge
      rw [List.all_eq_true]
      intro x hx
      obtain ⟨i, hi⟩ := List.mem_iff_getElem?.1 hx
      exact hall i x (by have := (List.getElem?_eq_some_iff.1 hi).1; omega) hi
  rintro w5 ⟨hnums, ⟨xs, hxl, hxr, B5⟩, F5⟩
  rw [hnums, Bool.true_and] at hver
  match xs, hxl with
  | [x0, x1, x2], _ =>
    have hx0 := hxr x0 (by simp)
    have hx1 := hxr x1 (by simp)
    have hx2 := hxr x2 (by simp)
    have F35 : Fr noB w3 w5 := F4.then F5 fun y hy h => by unfold oneB at h; omega
    refine idxB_ok (i := 0) (by omega) (B5.ld (c := .int .i64) (x := x0) rfl (idxB_ok (i := 1) (by omega) (B5.ld (c := .int .i64) (x := x1) rfl (idxB_ok (i := 2) (by omega) (B5.ld (c := .int .i64) (x := x2) rfl ?_)))))
    refine new_ok fun w6 m36 hm36 hs6 B36 F6 => ?_
    have F36 := F35.tr F6
    refine B36.st (o := 0) rfl (by simp) fun w7 B37 F7 => B37.st (o := 1) rfl (by simp) fun w8 B38 F8 => B38.st (o := 2) rfl (by simp) fun w9 B39 F9 => B39.st (o := 3) rfl (by simp) fun w10 B40 F10 => ?_
    have F3x : Fr noB w3 w10 := F36.then (((F7.sq F8).sq F9).sq F10) fun y hy h => by have := F35.size; unfold oneB at h; omega
    have B3x := B3.fr F3x (fun h => h)
    refine B40.ld (c := .int .i64) (x := x0) (o := 0) rfl (B40.ld (c := .int .i64) (x := x1) (o := 1) rfl (B40.ld (c := .int .i64) (x := x2) (o := 2) rfl (B40.ld (c := .str) (x := bs tail.tail) (o := 3) rfl ?_)))
    have hts := bs_size tail.tail
    refine callI_ok (Check_ok hx0 hx1 hx2 (bs tail.tail) (by omega) (hg.fr (F13.tr F3x))) fun w11 F11 => ?_
    have F3y := F3x.tr F11
    have B3y := B3.fr F3y (fun h => h)
    rw [bl_bs, ← hver]
    rcases Bool.eq_false_or_eq_true (verOk (bl s)) with hv | hv
    rotate_left
    · exact ite_yes (by rw [hv]; rfl) (zero4_ok B3y fun w' G => bad hv (by rw [hv]; rfl) (one (F13.tr F3y) G))
    · 
      have B41 := B40.fr F11 (fun h => h)
      refine ite_no (by rw [hv]; rfl) (B41.ld (c := .int .i64) (x := x0) (o := 0) rfl (B41.ld (c := .int .i64) (x := x1) (o := 1) rfl (B41.ld (c := .int .i64) (x := x2) (o := 2) rfl (B41.ld (c := .str) (x := bs tail.tail) (o := 3) rfl ?_))))
      refine B3y.st (o := 0) rfl (by simp) fun w12 B12 G1 => B12.st (o := 1) rfl (by simp) fun w13 B13 G2 => B13.st (o := 2) rfl (by simp) fun w14 B14 G3 => B14.st (o := 3) rfl (by simp) fun w15 B15 G4 => ?_
      exact B15.ld (c := .int .i64) (x := x0) (o := 0) rfl (B15.ld (c := .int .i64) (x := x1) (o := 1) rfl (B15.ld (c := .int .i64) (x := x2) (o := 2) rfl (B15.ld (c := .str) (x := bs tail.tail) (o := 3) rfl ⟨⟨x0, x1, x2, bs tail.tail, by rw [hv]; rfl⟩, one (F13.tr F3y) (((G1.sq G2).sq G3).sq G4)⟩)))
end
end Go.Proofs.YthnfcbjfmghomaaGreatDoor
