/- The finder law behind FRanksCard: one part of its proof (joined by program out of my own texts). No condition. -/
import Derived.Test.YticokfpaoiekgaaGreatDoorFRkBJ
section
namespace Go.Shp
open Go.Lex
theorem cmp_behind (o nm o2 nm2 : B) (r r2 : Int) : decide ((if (if r2 < r then (-1 : Int) else if r2 > r then 1 else 0) ≠ 0 then (if r2 < r then (-1 : Int) else if r2 > r then 1 else 0) else if (if ltB o o2 then (-1 : Int) else if ltB o2 o then 1 else 0) ≠ 0 then (if ltB o o2 then (-1 : Int) else if ltB o2 o then 1 else 0) else (if ltB nm nm2 then (-1 : Int) else if ltB nm2 nm then 1 else 0)) < 0) = behind ⟨o2, nm2, r2⟩ ⟨o, nm, r⟩ := by
  unfold behind
  by_cases h1 : r2 = r
  · subst h1
    by_cases h2 : o2 = o
    · subst h2
      cases h3 : ltB nm nm2 <;> cases h4 : ltB nm2 nm <;> simp [ltB_irr]
    · cases h3 : ltB o o2 with
      | true => simp [h2]
      | false =>
        have h4 := ltB_tri (Ne.symm h2) h3
        simp [h2, h4]
  · by_cases h2 : r2 < r
    · simp [h1, h2]
    · have h3 : r2 > r := by omega
      simp [h1, h2, h3]
end Go.Shp
namespace Go.Proofs.YticokfpaoiekgaaGreatDoor
open Go.Lift Go.Lex Go.Shp
section
variable {w : World}
theorem cmpInt_ok (x y : Int) : Calls Tryz.prog 54 #[.int .i64 x, .int .i64 y] w fun e w' => e = .returned (.int .i64 (if x < y then -1 else if x > y then 1 else 0)) ∧ Fr noB w w' := by
  have hN : ∀ (x : Int) {w : World}, AnsB 84 #[.int .i64 x] w false := fun x w => by
    apply c84
    unfold t84
    exact ⟨by simp, Fr.refl _ _⟩
  apply c54
  unfold t54
  refine callB_ok (hN x) fun w1 F1 => callB_ok (hN y) fun w2 F2 => ite_no rfl (ite_no rfl (ite_ok (fun h => ?_) fun h => ite_ok (fun h2 => ?_) fun h2 => ?_))
  · exact ⟨by rw [if_pos (of_decide_eq_true h)], F1.tr F2⟩
  · exact ⟨by rw [if_neg (of_decide_eq_false h), if_pos (of_decide_eq_true h2)], F1.tr F2⟩
  · exact ⟨by rw [if_neg (of_decide_eq_false h), if_neg (of_decide_eq_false h2)], F1.tr F2⟩
theorem cmpStr_ok (x y : ByteArray) : Calls Tryz.prog 55 #[.string x, .string y] w fun e w' => e = .returned (.int .i64 (if ltB (bl x) (bl y) then -1 else if ltB (bl y) (bl x) then 1 else 0)) ∧ Fr noB w w' := by
  have hN : ∀ (x : ByteArray) {w : World}, AnsB 85 #[.string x] w false := fun x w => by
    apply c85
    unfold t85
    exact ⟨by simp, Fr.refl _ _⟩
  apply c55
  unfold t55
  refine callB_ok (hN x) fun w1 F1 => callB_ok (hN y) fun w2 F2 => ite_no rfl (ite_no rfl ?_)
  rw [eq_bl, toList_bl, toList_bl, less_ltB, gt_ltB]
  refine ite_ok (fun h => ⟨by rw [if_pos h], F1.tr F2⟩) fun h => ite_ok (fun h2 => ⟨by rw [if_neg (by rw [h]; exact Bool.false_ne_true), if_pos h2], F1.tr F2⟩) fun h2 => ⟨by rw [if_neg (by rw [h]; exact Bool.false_ne_true), if_neg (by rw [h2]; exact Bool.false_ne_true)], F1.tr F2⟩
theorem cmpOr_ok {m : Nat} {T : TypeId} {x y z : Int} (B : Blk w m T [.int .i64 x, .int .i64 y, .int .i64 z]) : Calls Tryz.prog 53 #[.slice (some ⟨m, 0, none⟩) 3 3] w fun e w' => e = .returned (.int .i64 (if x ≠ 0 then x else if y ≠ 0 then y else z)) ∧ Fr noB w w' := by
  refine c53 ⟨some ⟨m, 0, none⟩, 3, 3⟩ ?_
  unfold t53
  refine join0_ok (fun w' => x = 0 ∧ y = 0 ∧ z = 0 ∧ Fr noB w w') (fun kend hkend => ?_) fun w' ⟨hx, hy, hz, F⟩ => ⟨by rw [hx, hy, hz]; rfl, F⟩
  refine countL_ok 3 (by omega) (fun i w' => (0 < i → x = 0) ∧ (1 < i → y = 0) ∧ (2 < i → z = 0) ∧ w' = w) (fun rec i w1 hi hI hrec => ?_) ⟨fun h => by omega, fun h => by omega, fun h => by omega, rfl⟩
  obtain ⟨h0, h1, h2, rfl⟩ := hI
  refine ite_ok (fun hlt => ?_) fun hge => ?_
  · have hlt : (i : Int) < 3 := of_decide_eq_true hlt
    refine join_in (vs := []) (idxB_ok (n := 3) (i := i) (by omega) ?_)
    match i, hlt with
    | 0, _ =>
      refine B.ld (c := .int .i64) (x := x) (o := 0 + 0 * 1) rfl (ite_ok (fun h => ⟨?_, Fr.refl _ _⟩) fun h => hrec (by omega) _ ⟨fun _ => ?_, fun h => by omega, fun h => by omega, rfl⟩)
      · have h : x ≠ 0 := by simpa using h
        rw [if_pos h]
      · simpa using h
    | 1, _ =>
      refine B.ld (c := .int .i64) (x := y) (o := 0 + 1 * 1) rfl (ite_ok (fun h => ⟨?_, Fr.refl _ _⟩) fun h => hrec (by omega) _ ⟨fun _ => h0 (by omega), fun _ => ?_, fun h => by omega, rfl⟩)
      · have h : y ≠ 0 := by simpa using h
        rw [if_neg (by simpa using h0 (by omega)), if_pos h]
      · simpa using h
    | 2, _ =>
      refine B.ld (c := .int .i64) (x := z) (o := 0 + 2 * 1) rfl (ite_ok (fun h => ⟨?_, Fr.refl _ _⟩) fun h => hrec (by omega) _ ⟨fun _ => h0 (by omega), fun _ => h1 (by omega), fun _ => ?_, rfl⟩)
      · rw [if_neg (by simpa using h0 (by omega)), if_neg (by simpa using h1 (by omega))]
      · simpa using h
    | i + 3, h => omega
  · have hge : ¬ (i : Int) < 3 := of_decide_eq_false hge
    exact hkend _ ⟨h0 (by omega), h1 (by omega), h2 (by omega), Fr.refl _ _⟩
theorem hitCmp_ok (x y : HV3) : Calls Tryz.prog 52 #[hvArg x, hvArg y] w fun e w' => ∃ n : Int, e = .returned (.int .i64 n) ∧ decide (n < 0) = behind (hvHit y) (hvHit x) ∧ Fr noB w w' := by
  obtain ⟨o, nm, r⟩ := x
  obtain ⟨o2, nm2, r2⟩ := y
  apply c52
  unfold t52
  refine new_ok fun w1 m6 hm6 hs1 B1 F1 => new_ok fun w2 m7 hm7 hs2 C2 F2 => drew_ok fun w3 F3 z3 => ?_
  have B3 := (B1.fr F2 (fun h => h)).fr F3 (fun h => h)
  have C3 := C2.fr F3 (fun h => h)
  change Blk w3 m6 _ (hitCells o nm r) at B3
  change Blk w3 m7 _ (hitCells o2 nm2 r2) at C3
  have F13 := (F1.tr F2).tr F3
  refine C3.ld (c := .int .i64) (x := r2) (o := 2) rfl (B3.ld (c := .int .i64) (x := r) (o := 2) rfl (B3.ld (c := .str) (x := o) (o := 0) rfl (C3.ld (c := .str) (x := o2) (o := 0) rfl (B3.ld (c := .str) (x := nm) (o := 1) rfl (C3.ld (c := .str) (x := nm2) (o := 1) rfl ?_)))))
  refine callI_ok (cmpInt_ok r2 r) fun w4 F4 => ?_
  have B4 := B3.fr F4 (fun h => h)
  have C4 := C3.fr F4 (fun h => h)
  refine keep_cons (C4.held1 rfl) (keep_cons (B4.held1 rfl) (keep_cons (C4.held1 rfl) (keep_cons (B4.held1 rfl) (keep_nil ?_))))
  refine callI_ok (cmpStr_ok o o2) fun w5 F5 => ?_
  have B5 := B4.fr F5 (fun h => h)
  have C5 := C4.fr F5 (fun h => h)
  refine keep_cons (C5.held1 rfl) (keep_cons (B5.held1 rfl) (keep_nil ?_))
  refine callI_ok (cmpStr_ok nm nm2) fun w6 F6 => ?_
  have B6 := B5.fr F6 (fun h => h)
  have C6 := C5.fr F6 (fun h => h)
  refine keep_cons (B6.held1 rfl) (keep_cons (C6.held1 rfl) (keep_nil ?_))
  refine new_ok fun w7 m17 hm17 hs7 D7 F7 => ?_
  refine callI_ok (cmpOr_ok D7) fun w8 F8 => ?_
  have B8 := (B6.fr F7 (fun h => h)).fr F8 (fun h => h)
  have C8 := (C6.fr F7 (fun h => h)).fr F8 (fun h => h)
  refine keep_cons (C8.held1 rfl) (keep_cons (B8.held1 rfl) (keep_cons (B8.held1 rfl) (keep_cons (C8.held1 rfl) (keep_nil ⟨_, rfl, ?_, ((((F13.tr F4).tr F5).tr F6).tr F7).tr F8⟩))))
  exact cmp_behind _ _ _ _ _ _
end
def CmpH (fv : Value) : Prop := ∃ f, fv = .func (.func f) #[] #[] ∧ (resOf Tryz.prog f).isSome = true ∧ ∀ (x y : HV3) (w : World), Calls Tryz.prog f #[hvArg x, hvArg y] w fun e w' => ∃ n : Int, e = .returned (.int .i64 n) ∧ decide (n < 0) = behind (hvHit y) (hvHit x) ∧ Fr noB w w'
theorem cmpH_search : CmpH (.func (.func 52) #[] #[]) := ⟨_, rfl, by kernel_rfl, fun x y w => hitCmp_ok x y⟩
theorem callCmp_ok {R : Ending → World → Prop} {w : World} {fv : Value} (hf : CmpH fv) (x y : HV3) {k : Int → G} (h : ∀ n w', decide (n < 0) = behind (hvHit y) (hvHit x) → Fr noB w w' → k n R w') : callVG Tryz.prog fv #[.agg #[.string x.1, .string x.2.1, .int .i64 x.2.2], .agg #[.string y.1, .string y.2.1, .int .i64 y.2.2]] [.one (.int .i64)] k R w := by
  obtain ⟨f, rfl, hr, hc⟩ := hf
  refine ⟨f, #[], #[], rfl, hr, ?_⟩
  rw [Array.empty_append, Array.append_empty]
  exact (hc x y w).mono fun e w' ⟨n, he, hn, F⟩ => .inl ⟨((n, ()), ()), he, h n w' hn F⟩
theorem insertionH_ok {w : World} {b n c : Nat} {T : TypeId} {rest : List Value} {fv : Value} {P X Z : List HV3} (hf : CmpH fv) (h : HRow w b T (P ++ (X ++ Z)) rest) (hn : n = (P ++ (X ++ Z)).length) (hb : n ≤ 1000000) :
    Calls Tryz.prog 110 #[.slice (some ⟨b, 0, none⟩) n c, .int .i64 (P.length : Int), .int .i64 ((P.length + X.length : Nat) : Int), fv] w (RowP b T rest w fun V' => ∃ W, V' = P ++ (W ++ Z) ∧ W.length = X.length ∧ (hvs W).Perm (hvs X) ∧ Down (hvs W)) := by
  have hlen : n = P.length + X.length + Z.length := by rw [hn]; simp only [List.length_append]; omega
  refine c110 ⟨some ⟨b, 0, none⟩, n, c⟩ _ _ _ ?_
  unfold t110
  have e1 : IntKind.wrap .i64 ((P.length : Int) + 1) = ((P.length + 1 : Nat) : Int) := wr (by omega) (by omega)
  rw [e1]
  refine join0_ok (fun w' => ∃ W, HRow w' b T (P ++ (W ++ Z)) rest ∧ W.length = X.length ∧ (hvs W).Perm (hvs X) ∧ Down (hvs W) ∧ Fr (oneB b) w w') (fun kend hkend => ?_) fun w' ⟨W, h1, h2, h3, h4, F⟩ => ⟨rfl, _, ⟨W, rfl, h2, h3, h4⟩, h1, F⟩
  cases X with
  | nil =>
    refine loop1_ok (c := .int .i64) (fun (i : Int) w' => i = ((P.length + 1 : Nat) : Int) ∧ w' = w) (fun _ => 0) (fun rec i w1 hI hrec => ?_) ⟨rfl, rfl⟩
    obtain ⟨rfl, rfl⟩ := hI
    refine ite_no (decide_eq_false (by simp only [List.length_nil]; omega)) (hkend _ ⟨[], h, rfl, List.Perm.refl _, List.Pairwise.nil, Fr.refl _ _⟩)
  | cons x0 X0 =>
    refine loop1_ok (c := .int .i64) (fun (i : Int) w' => ∃ W X2, i = ((P.length + W.length : Nat) : Int) ∧ 0 < W.length ∧ W.length + X2.length = (x0 :: X0).length ∧ HRow w' b T (P ++ (W ++ (X2 ++ Z))) rest ∧ (hvs (W ++ X2)).Perm (hvs (x0 :: X0)) ∧ Down (hvs W) ∧ Fr (oneB b) w w') (fun (i : Int) => n - i.toNat) ?_
      ⟨[x0], X0, by simp, by simp, by simp; omega, h, List.Perm.refl _, List.pairwise_singleton _ _, Fr.refl _ _⟩
    rintro rec i w1 ⟨W, X2, rfl, hW, hl, h1, hp, hd, F1⟩ hrec
    refine ite_ok (fun hlt => ?_) fun hge => hkend _ ?_
    rotate_left
    · have hge : ¬ ((P.length + W.length : Nat) : Int) < ((P.length + (x0 :: X0).length : Nat) : Int) := of_decide_eq_false hge
      have : X2 = [] := List.eq_nil_of_length_eq_zero (by omega)
      subst this
      rw [List.append_nil] at hp
      exact ⟨W, h1, by simpa using hl, hp, hd, F1⟩
    have hlt : ((P.length + W.length : Nat) : Int) < ((P.length + (x0 :: X0).length : Nat) : Int) := of_decide_eq_true hlt
    obtain ⟨x, X3, rfl⟩ : ∃ x X', X2 = x :: X' := by cases X2 with | nil => simp at hl hlt; omega | cons x X' => exact ⟨x, X', rfl⟩
    simp only [List.length_cons] at hl hlen hlt
    refine join_in (vs := []) ?_
    refine join0_ok (fun w' => ∃ A B, A ++ B = W ∧ HRow w' b T ((P ++ A) ++ (x :: (B ++ (X3 ++ Z)))) rest ∧ (∀ y ∈ hvs B, behind y (hvHit x) = true) ∧ (∀ y ∈ hvs A, behind y (hvHit x) = false) ∧ Fr (oneB b) w w') (fun kj hkj => ?_) ?_
    · refine loop1_ok (c := .int .i64) (fun (j : Int) w' => ∃ A B, A ++ B = W ∧ j = ((P.length + A.length : Nat) : Int) ∧ HRow w' b T ((P ++ A) ++ (x :: (B ++ (X3 ++ Z)))) rest ∧ (∀ y ∈ hvs B, behind y (hvHit x) = true) ∧ Fr (oneB b) w w') (fun (j : Int) => j.toNat) ?_
        ⟨W, [], by simp, rfl, by simpa only [List.append_assoc, List.nil_append, List.cons_append] using h1, fun y hy => by simp at hy, F1⟩
      rintro rec2 j w2 ⟨A, B, rfl, rfl, h2, hB, F2⟩ hrec2
      rw [List.length_append] at hl hW
      have htl : n = ((P ++ A) ++ (x :: (B ++ (X3 ++ Z)))).length := by rw [hlen]; simp only [List.length_append, List.length_cons]; omega
      refine join1_ok (c := .bool) (fun (t : Bool) w' => t = (decide (0 < A.length) && (A.getLast?).any fun y => behind (hvHit y) (hvHit x)) ∧ HRow w' b T ((P ++ A) ++ (x :: (B ++ (X3 ++ Z)))) rest ∧ Fr (oneB b) w w') (fun kt hkt => drew_ok fun w3 F3 z3 => ?_) ?_
      · have h3 : HRow w3 b T ((P ++ A) ++ (x :: (B ++ (X3 ++ Z)))) rest := Blk.fr h2 F3 fun h => h
        have F23 : Fr (oneB b) w w3 := F2.then F3 fun _ _ h => h.elim
        refine ite_ok (fun hgt => ?_) fun hle => hkt _ _ ⟨?_, h3, F23⟩
        rotate_left
        · have hle : ¬ ((P.length + A.length : Nat) : Int) > (P.length : Int) := of_decide_eq_false hle
          rw [decide_eq_false (by omega)]
          rfl
        have hgt : ((P.length + A.length : Nat) : Int) > (P.length : Int) := of_decide_eq_true hgt
        obtain ⟨A1, y, rfl⟩ : ∃ A1 y, A = A1 ++ [y] := ⟨A.dropLast, A.getLast (by intro h; simp [h] at hgt), (List.dropLast_concat_getLast _).symm⟩
        simp only [List.length_append, List.length_cons, List.length_nil] at hl hgt
        have ej : ((P.length + (A1 ++ [y]).length : Nat) : Int) = (((P ++ (A1 ++ [y])).length : Nat) : Int) := by simp only [List.length_append]
        have ej1 : IntKind.wrap .i64 (((P.length + (A1 ++ [y]).length : Nat) : Int) - 1) = (((P ++ A1).length : Nat) : Int) := wr (by simp only [List.length_append, List.length_cons, List.length_nil]; omega) (by simp only [List.length_append]; omega)
        rw [ej1, ej]
        refine hrow_ld h3 htl (at_mid _ _ _) (hrow_ld h3 htl (v := y) ?_ (callCmp_ok hf x y fun m w4 hm F4 => hkt _ _ ⟨?_, Blk.fr h3 F4 fun h => h, F23.then F4 fun _ _ h => h.elim⟩))
        · have : P ++ (A1 ++ [y]) ++ x :: (B ++ (X3 ++ Z)) = (P ++ A1) ++ y :: (x :: (B ++ (X3 ++ Z))) := by simp only [List.append_assoc, List.cons_append, List.nil_append]
          rw [this]
          exact at_mid _ _ _
        · rw [hm, decide_eq_true (by simp), List.getLast?_concat]
          rfl
      rintro t w3 ⟨ht, h3, F3⟩
      refine ite_ok (fun h => ?_) fun h => hkj _ ⟨A, B, rfl, h3, hB, ?_, F3⟩
      · rw [h] at ht
        have ht := ht.symm
        rw [Bool.and_eq_true] at ht
        have hA0 : 0 < A.length := of_decide_eq_true ht.1
        obtain ⟨A1, y, rfl⟩ : ∃ A1 y, A = A1 ++ [y] := ⟨A.dropLast, A.getLast (by intro h; simp [h] at hA0), (List.dropLast_concat_getLast _).symm⟩
        rw [List.getLast?_concat] at ht
        have hyx : behind (hvHit y) (hvHit x) = true := ht.2
        simp only [List.length_append, List.length_cons, List.length_nil] at hl
        have eV : P ++ (A1 ++ [y]) ++ x :: (B ++ (X3 ++ Z)) = (P ++ A1) ++ y :: ([] ++ x :: (B ++ (X3 ++ Z))) := by simp only [List.append_assoc, List.cons_append, List.nil_append]
        rw [eV] at h3 htl
        have ej : ((P.length + (A1 ++ [y]).length : Nat) : Int) = (((P ++ A1).length + 1 + ([] : List HV3).length : Nat) : Int) := by simp only [List.length_append, List.length_cons, List.length_nil]; omega
        have ej1 : IntKind.wrap .i64 (((P.length + (A1 ++ [y]).length : Nat) : Int) - 1) = (((P ++ A1).length : Nat) : Int) := wr (by simp only [List.length_append, List.length_cons, List.length_nil]; omega) (by simp only [List.length_append]; omega)
        refine join_in (vs := []) (drew_ok fun w4 F4 z4 => ?_)
        rw [ej1, ej]
        refine hrow_swap (Blk.fr h3 F4 fun h => h) htl (at_mid _ _ _) (at_mid2 _ _ _ _ _) fun w5 h5 F5 => hrec2 _ _ ⟨A1, y :: B, by simp, by simp only [List.length_append], ?_, ?_, st_fr (F3.then F4 fun _ _ h => h.elim) F5⟩ ?_
        · rw [swap_mid'] at h5
          simpa only [List.append_assoc, List.cons_append, List.nil_append] using h5
        · intro z hz
          rw [hvs, List.map_cons, List.mem_cons] at hz
          rcases hz with rfl | hz
          · exact hyx
          · exact hB z hz
        · simp only [List.length_append, List.length_cons, List.length_nil, Int.toNat_natCast]
          omega
      · rw [h] at ht
        have hdA : Down (hvs A) := by
          have := hd
          rw [hvs, List.map_append] at this
          exact (down_append.1 this).1
        intro z hz
        obtain ⟨k, hk⟩ := List.mem_iff_getElem?.1 hz
        have hkl := (List.getElem?_eq_some_iff.1 hk).1
        rw [hvs, List.length_map] at hkl
        obtain ⟨A1, y, rfl⟩ : ∃ A1 y, A = A1 ++ [y] := ⟨A.dropLast, A.getLast (by intro h; simp [h] at hkl), (List.dropLast_concat_getLast _).symm⟩
        rw [decide_eq_true (by simp), Bool.true_and, List.getLast?_concat] at ht
        have hyx : behind (hvHit y) (hvHit x) = false := ht.symm
        have hlast : (hvs (A1 ++ [y]))[A1.length]? = some (hvHit y) := by
          rw [hvs, List.map_append]
          simp
        exact behind_le (down_at hdA (by simp at hkl; omega) hk hlast) hyx
    rintro w3 ⟨A, B, rfl, h3, hB, hA, F3⟩
    rw [List.length_append] at hl hW
    have ei : IntKind.wrap .i64 (((P.length + (A ++ B).length : Nat) : Int) + 1) = ((P.length + (A ++ x :: B).length : Nat) : Int) := wr (by simp only [List.length_append, List.length_cons]; omega) (by simp only [List.length_append, List.length_cons]; omega)
    rw [ei]
    refine hrec _ _ ⟨A ++ x :: B, X3, rfl, by simp only [List.length_append, List.length_cons]; omega, by simp only [List.length_append, List.length_cons]; omega, by simpa only [List.append_assoc, List.cons_append] using h3, ?_, ?_, F3⟩ ?_
    · refine List.Perm.trans ?_ hp
      refine List.Perm.map _ ?_
      rw [List.append_assoc, List.append_assoc]
      refine List.Perm.append_left A ?_
      rw [List.cons_append]
      exact List.perm_middle.symm
    · rw [hvs, List.map_append, List.map_cons]
      have hd' := hd
      rw [hvs, List.map_append] at hd'
      exact one_in hd' hA fun y hy => behind_asym (hB y hy)
    · simp only [List.length_append, List.length_cons, Int.toNat_natCast]
      omega
end Go.Proofs.YticokfpaoiekgaaGreatDoor
end
