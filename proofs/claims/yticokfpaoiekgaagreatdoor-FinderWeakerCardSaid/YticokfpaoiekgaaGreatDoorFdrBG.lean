/- The law behind: one part of its proof (joined by program out of my own texts). No condition. -/
import Derived.Test.YticokfpaoiekgaaGreatDoorFdrBF
section
namespace Go.Proofs.YticokfpaoiekgaaGreatDoor
open Go.Lift Go.Lex Go.Shp
theorem half_ok {i j : Nat} (h : i + j ≤ 4000000) : IntKind.wrap .i64 (Int.fdiv (IntKind.wrap .u64 (IntKind.wrap .i64 ((i : Int) + (j : Int)))) ((2 : Int) ^ Min.min (Int.toNat (1 : Int)) (IntKind.bits .u64))) = (((i + j) / 2 : Nat) : Int) := by
 have e0 : IntKind.wrap .i64 ((i : Int) + (j : Int)) = ((i + j : Nat) : Int) := wr (by omega) (by omega)
 have e1 : IntKind.wrap .u64 ((i + j : Nat) : Int) = ((i + j : Nat) : Int) := by
  unfold IntKind.wrap
  simp [IntKind.bits, IntKind.signed]
  omega
 have e2 : ((2 : Int) ^ Min.min (Int.toNat (1 : Int)) (IntKind.bits .u64)) = 2 := by decide
 rw [e0, e1, e2, Int.fdiv_eq_ediv_of_nonneg _ (by omega)]
 exact wr (by omega) (by omega)
theorem seg_at {α : Type} {P X Z : List α} {k : Nat} (h : k < X.length) : (P ++ (X ++ Z))[P.length + k]? = X[k]? := by
 rw [List.getElem?_append_right (by omega), show P.length + k - P.length = k by omega, List.getElem?_append_left h]
theorem hvs_at {V : List HV3} {i : Nat} {v : HV3} (h : V[i]? = some v) : (hvs V)[i]? = some (hvHit v) := by rw [hvs, List.getElem?_map, h]; rfl
theorem hvs_append (A B : List HV3) : hvs (A ++ B) = hvs A ++ hvs B := List.map_append
theorem join2_ok {R : Ending → World → Prop} {w : World} {x : (Int → Int → G) → G} {k : Int → Int → G} (M : Int → Int → World → Prop) (hx : ∀ kj : Int → Int → G, (∀ y z w', M y z w' → kj y z R w') → x kj R w) (hk : ∀ y z w', M y z w' → k y z R w') : joinG [.one (.int .i64), .one (.int .i64)] x k R w := hx k hk
theorem part_at (X : List HV3) (s : Nat) (h : s ≤ X.length) : ∃ X1 X2, X = X1 ++ X2 ∧ X1.length = s := ⟨X.take s, X.drop s, (List.take_append_drop _ _).symm, by rw [List.length_take]; omega⟩
set_option maxHeartbeats 4000000 in
theorem symMerge_ok {b n c : Nat} {T : TypeId} {rest : List Value} {fv : Value} (hf : CmpH fv) (hb : n ≤ 1000000) : ∀ (d : Nat) {w : World} {P X Y Z : List HV3}, X.length + Y.length ≤ d → 0 < X.length → 0 < Y.length → Down (hvs X) → Down (hvs Y) →
  HRow w b T (P ++ (X ++ (Y ++ Z))) rest → n = (P ++ (X ++ (Y ++ Z))).length →
  Calls Tryz.prog 111 #[.slice (some ⟨b, 0, none⟩) n c, .int .i64 (P.length : Int), .int .i64 ((P.length + X.length : Nat) : Int), .int .i64 ((P.length + X.length + Y.length : Nat) : Int), fv] w
   (RowP b T rest w fun V' => ∃ W, V' = P ++ (W ++ Z) ∧ W.length = X.length + Y.length ∧ (hvs W).Perm (hvs X ++ hvs Y) ∧ Down (hvs W))
 | 0, _, _, _, _, _, hd, hX, _, _, _, _, _ => by omega
 | d + 1, w, P, X, Y, Z, hd, hX, hY, dX, dY, h, hn => by
  have ih := fun {w : World} {P X Y Z : List HV3} => symMerge_ok (b := b) (n := n) (c := c) (T := T) (rest := rest) hf hb d (w := w) (P := P) (X := X) (Y := Y) (Z := Z)
  have hlen : n = P.length + X.length + Y.length + Z.length := by rw [hn]; simp only [List.length_append]; omega
  have atX : ∀ k, k < X.length → (P ++ (X ++ (Y ++ Z)))[P.length + k]? = X[k]? := fun k hk => seg_at hk
  have atY : ∀ k, k < Y.length → (P ++ (X ++ (Y ++ Z)))[P.length + X.length + k]? = Y[k]? := fun k hk => by
   have := seg_at (P := P ++ X) (X := Y) (Z := Z) hk
   rw [List.append_assoc, List.length_append] at this
   exact this
  refine c111 ⟨some ⟨b, 0, none⟩, n, c⟩ _ _ _ _ ?_
  unfold t111 wrZ ivZ tvZ svZ ld3xZ ca0Z jn0Z jnBZ jnIZ lpIZ lpIIZ ixZ
  have e1 : IntKind.wrap .i64 (((P.length + X.length : Nat) : Int) - (P.length : Int)) = (X.length : Int) := wr (by omega) (by omega)
  have e2 : IntKind.wrap .i64 (((P.length + X.length + Y.length : Nat) : Int) - ((P.length + X.length : Nat) : Int)) = (Y.length : Int) := wr (by omega) (by omega)
  rw [e1, e2]
  refine ite_ok (fun h1 => ?_) fun h1 => ?_
  ·-- one on the left
   have h1 : X.length = 1 := by
    have : (X.length : Int) = 1 := by simpa using h1
    omega
   obtain ⟨x, rfl⟩ := List.length_eq_one_iff.1 h1
   rw [h1] at hlen atX atY ⊢
   refine join1_ok (c := .int .i64) (fun (i : Int) w' => ∃ Y1 Y2, Y = Y1 ++ Y2 ∧ i = ((P.length + 1 + Y1.length : Nat) : Int) ∧ (∀ y ∈ hvs Y1, behind (hvHit x) y = true) ∧ (∀ y ∈ hvs Y2, behind (hvHit x) y = false) ∧ HRow w' b T (P ++ ([x] ++ (Y ++ Z))) rest ∧ Fr (oneB b) w w') (fun kj hkj => ?_) ?_
   ·refine loop_ok (vs := [.one (.int .i64), .one (.int .i64)]) (fun xs w' => ∃ i j : Nat, i ≤ j ∧ j ≤ Y.length ∧ (show Int from xs.1.1) = ((P.length + 1 + i : Nat) : Int) ∧ (show Int from xs.2.1.1) = ((P.length + 1 + j : Nat) : Int) ∧ (∀ k y, k < i → (hvs Y)[k]? = some y → behind (hvHit x) y = true) ∧ (∀ k y, j ≤ k → (hvs Y)[k]? = some y → behind (hvHit x) y = false) ∧ HRow w' b T (P ++ ([x] ++ (Y ++ Z))) rest ∧ Fr (oneB b) w w')
     (fun xs => (show Int from xs.2.1.1).toNat - (show Int from xs.1.1).toNat) ?_ (xs := ((((P.length + 1 : Nat) : Int), ()), ((((P.length + 1 + Y.length : Nat) : Int), ()), ()))) ⟨0, Y.length, by omega, Nat.le_refl _, rfl, rfl, fun k y hk => by omega, fun k y hk hy => by have := (List.getElem?_eq_some_iff.1 hy).1; rw [hvs, List.length_map] at this; omega, h, Fr.refl _ _⟩
    rintro rec ⟨⟨i0, ⟨⟩⟩, ⟨⟨j0, ⟨⟩⟩, ⟨⟩⟩⟩ w1 ⟨i, j, hij, hjl, hi, hj, hlo, hhi, hr, F1⟩ hrec
    change i0 = _ at hi
    change j0 = _ at hj
    subst hi hj
    refine ite_ok (fun hlt => ?_) fun hge => ?_
    rotate_left
    ·have hge : ¬ ((P.length + 1 + i : Nat) : Int) < ((P.length + 1 + j : Nat) : Int) := of_decide_eq_false hge
     have : i = j := by omega
     subst this
     obtain ⟨Y1, Y2, rfl, hl1⟩ := part_at Y i hjl
     refine hkj _ _ ⟨Y1, Y2, rfl, by rw [hl1], fun y hy => ?_, fun y hy => ?_, hr, F1⟩
     ·obtain ⟨k, hk⟩ := List.mem_iff_getElem?.1 hy
      have hkl := (List.getElem?_eq_some_iff.1 hk).1
      refine hlo k y (by rw [hvs, List.length_map] at hkl; omega) ?_
      rw [hvs_append, List.getElem?_append_left hkl]
      exact hk
     ·obtain ⟨k, hk⟩ := List.mem_iff_getElem?.1 hy
      refine hhi (i + k) y (by omega) ?_
      rw [hvs_append, List.getElem?_append_right (by simp [hl1]), show i + k - (hvs Y1).length = k by simp [hl1]]
      exact hk
    have hlt : ((P.length + 1 + i : Nat) : Int) < ((P.length + 1 + j : Nat) : Int) := of_decide_eq_true hlt
    have em : (P.length + 1 + i + (P.length + 1 + j)) / 2 = P.length + 1 + (i + j) / 2 := by omega
    rw [half_ok (by omega), em]
    obtain ⟨y, hy⟩ : ∃ y, Y[(i + j) / 2]? = some y := ⟨_, List.getElem?_eq_getElem (by omega)⟩
    refine join_in (vs := [.one (.int .i64), .one (.int .i64)]) (drew_ok fun w2 F2 z2 => ?_)
    have hr2 : HRow w2 b T (P ++ ([x] ++ (Y ++ Z))) rest := Blk.fr hr F2 fun h => h
    have G2 : Fr (oneB b) w w2 := F1.then F2 fun _ _ h => h.elim
    refine hrow_ld hr2 hn (v := y) (by rw [atY _ (by omega)]; exact hy) (hrow_ld hr2 hn (v := x) (by have := atX 0 (by omega); rw [Nat.add_zero] at this; exact this) (callCmp_ok hf y x fun m w3 hm F3 => join_in (vs := [.one (.int .i64), .one (.int .i64)]) ?_))
    have hr3 : HRow w3 b T (P ++ ([x] ++ (Y ++ Z))) rest := Blk.fr hr2 F3 fun h => h
    have G3 : Fr (oneB b) w w3 := G2.then F3 fun _ _ h => h.elim
    have ei : IntKind.wrap .i64 (((P.length + 1 + (i + j) / 2 : Nat) : Int) + 1) = ((P.length + 1 + ((i + j) / 2 + 1) : Nat) : Int) := wr (by omega) (by omega)
    refine ite_ok (fun hc => ?_) fun hc => ?_
    ·have hc : behind (hvHit x) (hvHit y) = true := by rw [← hm]; exact hc
     refine hrec ((_, ()), ((_, ()), ())) _ ⟨(i + j) / 2 + 1, j, by omega, hjl, ei, rfl, fun k z hk hz => ?_, hhi, hr3, G3⟩ ?_
     ·by_cases hxz : behind (hvHit x) z = true
      ·exact hxz
      ·have hxz : behind (hvHit x) z = false := by simpa using hxz
       rw [behind_le hxz (down_at dY (show k ≤ (i + j) / 2 by omega) hz (hvs_at hy))] at hc
       cases hc
     ·show (((P.length + 1 + j : Nat) : Int)).toNat - (IntKind.wrap .i64 (((P.length + 1 + (i + j) / 2 : Nat) : Int) + 1)).toNat < (((P.length + 1 + j : Nat) : Int)).toNat - (((P.length + 1 + i : Nat) : Int)).toNat
      rw [ei]
      simp only [Int.toNat_natCast]
      omega
    ·have hc : behind (hvHit x) (hvHit y) = false := by rw [← hm]; exact hc
     refine hrec ((_, ()), ((_, ()), ())) _ ⟨i, (i + j) / 2, by omega, by omega, rfl, rfl, hlo, fun k z hk hz => behind_le hc (down_at dY hk (hvs_at hy) hz), hr3, G3⟩ ?_
     show (((P.length + 1 + (i + j) / 2 : Nat) : Int)).toNat - (((P.length + 1 + i : Nat) : Int)).toNat < (((P.length + 1 + j : Nat) : Int)).toNat - (((P.length + 1 + i : Nat) : Int)).toNat
     simp only [Int.toNat_natCast]
     omega
   rintro i w1 ⟨Y1, Y2, rfl, rfl, hlo, hhi, hr, F1⟩
   have hl2 : (Y1 ++ Y2).length = Y1.length + Y2.length := List.length_append
   have ei : IntKind.wrap .i64 (((P.length + 1 + Y1.length : Nat) : Int) - 1) = ((P.length + Y1.length : Nat) : Int) := wr (by omega) (by omega)
   rw [ei]
   refine join0_ok (fun w' => HRow w' b T (P ++ (Y1 ++ ([x] ++ (Y2 ++ Z)))) rest ∧ Fr (oneB b) w w') (fun kj hkj => ?_) ?_
   ·refine loop1_ok (c := .int .i64) (fun (k : Int) w' => ∃ A B, Y1 = A ++ B ∧ k = ((P.length + A.length : Nat) : Int) ∧ HRow w' b T ((P ++ A) ++ x :: (B ++ (Y2 ++ Z))) rest ∧ Fr (oneB b) w w') (fun (k : Int) => n - k.toNat) ?_ ⟨[], Y1, rfl, rfl, by simpa only [List.append_assoc, List.cons_append, List.nil_append, List.append_nil] using hr, F1⟩
    rintro rec k w2 ⟨A, B, rfl, rfl, h2, F2⟩ hrec
    refine ite_ok (fun hlt => ?_) fun hge => hkj _ ⟨?_, F2⟩
    ·have hlt : ((P.length + A.length : Nat) : Int) < ((P.length + (A ++ B).length : Nat) : Int) := of_decide_eq_true hlt
     rw [List.length_append] at hlt
     obtain ⟨y, B, rfl⟩ : ∃ y B', B = y :: B' := by cases B with | nil => simp at hlt | cons y B' => exact ⟨y, B', rfl⟩
     rw [List.length_cons] at hlt
     have hlen' := hlen
     simp only [List.length_append, List.length_cons] at hlen'
     have eV : P ++ A ++ x :: (y :: B ++ (Y2 ++ Z)) = (P ++ A) ++ x :: ([] ++ y :: (B ++ (Y2 ++ Z))) := rfl
     rw [eV] at h2
     have ek : ((P.length + A.length : Nat) : Int) = (((P ++ A).length : Nat) : Int) := by rw [List.length_append]
     have ek1 : IntKind.wrap .i64 (((P.length + A.length : Nat) : Int) + 1) = (((P ++ A).length + 1 + ([] : List HV3).length : Nat) : Int) := wr (by simp only [List.length_append, List.length_nil]; omega) (by simp only [List.length_append, List.length_nil]; omega)
     refine join_in (vs := []) (drew_ok fun w3 F3 z3 => ?_)
     rw [ek1, ek]
     refine hrow_swap (Blk.fr h2 F3 fun h => h) (by rw [hlen]; simp only [List.length_append, List.length_cons, List.length_nil]; omega) (at_mid2 _ _ _ _ _) (at_mid _ _ _) fun w4 h4 F4 => ?_
     refine hrec _ _ ⟨A ++ [y], B, by simp, by simp only [List.length_append, List.length_cons, List.length_nil]; omega, ?_, st_fr (F2.then F3 fun _ _ h => h.elim) F4⟩ ?_
     ·rw [swap_mid] at h4
      simpa only [List.append_assoc, List.cons_append, List.nil_append] using h4
     ·simp only [List.length_append, List.length_nil, Int.toNat_natCast]
      omega
    ·have hge : ¬ ((P.length + A.length : Nat) : Int) < ((P.length + (A ++ B).length : Nat) : Int) := of_decide_eq_false hge
     rw [List.length_append] at hge
     have : B = [] := List.eq_nil_of_length_eq_zero (by omega)
     subst this
     simpa only [List.append_assoc, List.cons_append, List.nil_append, List.append_nil] using h2
   rintro w2 ⟨h2, F2⟩
   refine ⟨rfl, _, ⟨Y1 ++ [x] ++ Y2, rfl, by simp only [List.length_append, List.length_cons, List.length_nil]; omega, ?_, ?_⟩, by simpa only [List.append_assoc, List.cons_append, List.nil_append] using h2, F2⟩
   ·rw [hvs_append, hvs_append, hvs_append, ← List.append_assoc]
    exact List.Perm.append_right _ List.perm_append_comm
   ·rw [hvs_append] at dY
    rw [hvs_append, hvs_append, List.append_assoc]
    exact one_in dY (fun y hy => behind_asym (hlo y hy)) hhi
  refine ite_ok (fun h2 => ?_) fun h2 => ?_
  ·-- one on the right
   have h2 : Y.length = 1 := by
    have : (Y.length : Int) = 1 := by simpa using h2
    omega
   obtain ⟨y, rfl⟩ := List.length_eq_one_iff.1 h2
   refine join1_ok (c := .int .i64) (fun (i : Int) w' => ∃ X1 X2, X = X1 ++ X2 ∧ i = ((P.length + X1.length : Nat) : Int) ∧ (∀ x ∈ hvs X1, behind x (hvHit y) = false) ∧ (∀ x ∈ hvs X2, behind x (hvHit y) = true) ∧ HRow w' b T (P ++ (X ++ ([y] ++ Z))) rest ∧ Fr (oneB b) w w') (fun kj hkj => ?_) ?_
   ·refine loop_ok (vs := [.one (.int .i64), .one (.int .i64)]) (fun xs w' => ∃ i j : Nat, i ≤ j ∧ j ≤ X.length ∧ (show Int from xs.1.1) = ((P.length + i : Nat) : Int) ∧ (show Int from xs.2.1.1) = ((P.length + j : Nat) : Int) ∧ (∀ k x, k < i → (hvs X)[k]? = some x → behind x (hvHit y) = false) ∧ (∀ k x, j ≤ k → (hvs X)[k]? = some x → behind x (hvHit y) = true) ∧ HRow w' b T (P ++ (X ++ ([y] ++ Z))) rest ∧ Fr (oneB b) w w')
     (fun xs => (show Int from xs.2.1.1).toNat - (show Int from xs.1.1).toNat) ?_ (xs := ((((P.length : Nat) : Int), ()), ((((P.length + X.length : Nat) : Int), ()), ()))) ⟨0, X.length, by omega, Nat.le_refl _, rfl, rfl, fun k y hk => by omega, fun k y hk hy => by have := (List.getElem?_eq_some_iff.1 hy).1; rw [hvs, List.length_map] at this; omega, h, Fr.refl _ _⟩
    rintro rec ⟨⟨i0, ⟨⟩⟩, ⟨⟨j0, ⟨⟩⟩, ⟨⟩⟩⟩ w1 ⟨i, j, hij, hjl, hi, hj, hlo, hhi, hr, F1⟩ hrec
    change i0 = _ at hi
    change j0 = _ at hj
    subst hi hj
    refine ite_ok (fun hlt => ?_) fun hge => ?_
    rotate_left
    ·have hge : ¬ ((P.length + i : Nat) : Int) < ((P.length + j : Nat) : Int) := of_decide_eq_false hge
     have : i = j := by omega
     subst this
     obtain ⟨X1, X2, rfl, hl1⟩ := part_at X i hjl
     refine hkj _ _ ⟨X1, X2, rfl, by rw [hl1], fun y hy => ?_, fun y hy => ?_, hr, F1⟩
     ·obtain ⟨k, hk⟩ := List.mem_iff_getElem?.1 hy
      have hkl := (List.getElem?_eq_some_iff.1 hk).1
      refine hlo k y (by rw [hvs, List.length_map] at hkl; omega) ?_
      rw [hvs_append, List.getElem?_append_left hkl]
      exact hk
     ·obtain ⟨k, hk⟩ := List.mem_iff_getElem?.1 hy
      refine hhi (i + k) y (by omega) ?_
      rw [hvs_append, List.getElem?_append_right (by simp [hl1]), show i + k - (hvs X1).length = k by simp [hl1]]
      exact hk
    have hlt : ((P.length + i : Nat) : Int) < ((P.length + j : Nat) : Int) := of_decide_eq_true hlt
    have em : (P.length + i + (P.length + j)) / 2 = P.length + (i + j) / 2 := by omega
    rw [half_ok (by omega), em]
    obtain ⟨x, hx⟩ : ∃ x, X[(i + j) / 2]? = some x := ⟨_, List.getElem?_eq_getElem (by omega)⟩
    refine join_in (vs := [.one (.int .i64), .one (.int .i64)]) (drew_ok fun w2 F2 z2 => ?_)
    have hr2 : HRow w2 b T (P ++ (X ++ ([y] ++ Z))) rest := Blk.fr hr F2 fun h => h
    have G2 : Fr (oneB b) w w2 := F1.then F2 fun _ _ h => h.elim
    refine hrow_ld hr2 hn (v := y) (by have := atY 0 (by omega); rw [Nat.add_zero] at this; exact this) (hrow_ld hr2 hn (v := x) (by rw [atX _ (by omega)]; exact hx) (callCmp_ok hf y x fun m w3 hm F3 => join_in (vs := [.one (.int .i64), .one (.int .i64)]) ?_))
    have hr3 : HRow w3 b T (P ++ (X ++ ([y] ++ Z))) rest := Blk.fr hr2 F3 fun h => h
    have G3 : Fr (oneB b) w w3 := G2.then F3 fun _ _ h => h.elim
    have ei : IntKind.wrap .i64 (((P.length + (i + j) / 2 : Nat) : Int) + 1) = ((P.length + ((i + j) / 2 + 1) : Nat) : Int) := wr (by omega) (by omega)
    refine ite_ok (fun hc => ?_) fun hc => ?_
    ·have hc : behind (hvHit x) (hvHit y) = false := by rw [← hm]; simpa using hc
     refine hrec ((_, ()), ((_, ()), ())) _ ⟨(i + j) / 2 + 1, j, by omega, hjl, ei, rfl, fun k z hk hz => behind_le (down_at dX (show k ≤ (i + j) / 2 by omega) hz (hvs_at hx)) hc, hhi, hr3, G3⟩ ?_
     show (((P.length + j : Nat) : Int)).toNat - (IntKind.wrap .i64 (((P.length + (i + j) / 2 : Nat) : Int) + 1)).toNat < (((P.length + j : Nat) : Int)).toNat - (((P.length + i : Nat) : Int)).toNat
     rw [ei]
     simp only [Int.toNat_natCast]
     omega
    ·have hc : behind (hvHit x) (hvHit y) = true := by rw [← hm]; simpa using hc
     refine hrec ((_, ()), ((_, ()), ())) _ ⟨i, (i + j) / 2, by omega, by omega, rfl, rfl, hlo, fun k z hk hz => ?_, hr3, G3⟩ ?_
     ·by_cases hxz : behind z (hvHit y) = true
      ·exact hxz
      ·have hxz : behind z (hvHit y) = false := by simpa using hxz
       rw [behind_le (down_at dX hk (hvs_at hx) hz) hxz] at hc
       cases hc
     ·show (((P.length + (i + j) / 2 : Nat) : Int)).toNat - (((P.length + i : Nat) : Int)).toNat < (((P.length + j : Nat) : Int)).toNat - (((P.length + i : Nat) : Int)).toNat
      simp only [Int.toNat_natCast]
      omega
   rintro i w1 ⟨X1, X2, rfl, rfl, hlo, hhi, hr, F1⟩
   have hl2 : (X1 ++ X2).length = X1.length + X2.length := List.length_append
   refine join0_ok (fun w' => HRow w' b T (P ++ (X1 ++ ([y] ++ (X2 ++ Z)))) rest ∧ Fr (oneB b) w w') (fun kj hkj => ?_) ?_
   ·refine loop1_ok (c := .int .i64) (fun (k : Int) w' => ∃ A B, X2 = A ++ B ∧ k = ((P.length + X1.length + A.length : Nat) : Int) ∧ HRow w' b T ((P ++ X1 ++ A) ++ y :: (B ++ Z)) rest ∧ Fr (oneB b) w w') (fun (k : Int) => k.toNat) ?_ ⟨X2, [], by simp, by rw [hl2]; congr 1; omega, by simpa only [List.append_assoc, List.cons_append, List.nil_append, List.append_nil] using hr, F1⟩
    rintro rec k w2 ⟨A, B, rfl, rfl, h2, F2⟩ hrec
    refine ite_ok (fun hgt => ?_) fun hle => hkj _ ⟨?_, F2⟩
    ·have hgt : ((P.length + X1.length + A.length : Nat) : Int) > ((P.length + X1.length : Nat) : Int) := of_decide_eq_true hgt
     obtain ⟨A, x, rfl⟩ : ∃ A1 x, A = A1 ++ [x] := ⟨A.dropLast, A.getLast (by intro h; simp [h] at hgt), (List.dropLast_concat_getLast _).symm⟩
     simp only [List.length_append, List.length_cons, List.length_nil] at hgt
     have hlen' := hlen
     simp only [List.length_append, List.length_cons, List.length_nil] at hlen'
     have eV : P ++ X1 ++ (A ++ [x]) ++ y :: (B ++ Z) = (P ++ X1 ++ A) ++ x :: ([] ++ y :: (B ++ Z)) := by simp only [List.append_assoc, List.cons_append, List.nil_append]
     rw [eV] at h2
     have ek : ((P.length + X1.length + (A ++ [x]).length : Nat) : Int) = (((P ++ X1 ++ A).length + 1 + ([] : List HV3).length : Nat) : Int) := by simp only [List.length_append, List.length_cons, List.length_nil]; omega
     have ek1 : IntKind.wrap .i64 (((P.length + X1.length + (A ++ [x]).length : Nat) : Int) - 1) = (((P ++ X1 ++ A).length : Nat) : Int) := wr (by simp only [List.length_append, List.length_cons, List.length_nil]; omega) (by simp only [List.length_append]; omega)
     refine join_in (vs := []) (drew_ok fun w3 F3 z3 => ?_)
     rw [ek1, ek]
     refine hrow_swap (Blk.fr h2 F3 fun h => h) (by rw [hlen]; simp only [List.length_append, List.length_cons, List.length_nil]; omega) (at_mid _ _ _) (at_mid2 _ _ _ _ _) fun w4 h4 F4 => ?_
     refine hrec _ _ ⟨A, x :: B, by simp, by simp only [List.length_append], ?_, st_fr (F2.then F3 fun _ _ h => h.elim) F4⟩ ?_
     ·rw [swap_mid'] at h4
      simpa only [List.append_assoc, List.cons_append, List.nil_append] using h4
     ·simp only [List.length_append, List.length_cons, List.length_nil, Int.toNat_natCast]
      omega
    ·have hle : ¬ ((P.length + X1.length + A.length : Nat) : Int) > ((P.length + X1.length : Nat) : Int) := of_decide_eq_false hle
     have : A = [] := List.eq_nil_of_length_eq_zero (by omega)
     subst this
     simpa only [List.append_assoc, List.cons_append, List.nil_append, List.append_nil] using h2
   rintro w2 ⟨h2, F2⟩
   refine ⟨rfl, _, ⟨X1 ++ [y] ++ X2, rfl, by simp only [List.length_append, List.length_cons, List.length_nil]; omega, ?_, ?_⟩, by simpa only [List.append_assoc, List.cons_append, List.nil_append] using h2, F2⟩
   ·rw [hvs_append, hvs_append, hvs_append, List.append_assoc, List.append_assoc]
    exact List.Perm.append_left _ List.perm_append_comm
   ·rw [hvs_append] at dX
    rw [hvs_append, hvs_append, List.append_assoc]
    exact one_in dX hlo fun y hy => behind_asym (hhi y hy)
  -- many on both sides
  have h1 : X.length ≠ 1 := by
   intro e
   rw [e] at h1
   simp at h1
  have h2 : Y.length ≠ 1 := by
   intro e
   rw [e] at h2
   simp at h2
  rw [half_ok (by omega)]
  generalize hmid : (P.length + (P.length + X.length + Y.length)) / 2 = mid
  have hm1 : 2 * mid ≤ 2 * P.length + X.length + Y.length := by omega
  have hm2 : 2 * P.length + X.length + Y.length ≤ 2 * mid + 1 := by omega
  clear hmid
  generalize hV : P ++ (X ++ (Y ++ Z)) = V at h hn atX atY
  have en : IntKind.wrap .i64 ((mid : Int) + ((P.length + X.length : Nat) : Int)) = ((mid + (P.length + X.length) : Nat) : Int) := wr (by omega) (by omega)
  have en1 : IntKind.wrap .i64 (((mid + (P.length + X.length) : Nat) : Int) - 1) = ((mid + (P.length + X.length) - 1 : Nat) : Int) := wr (by omega) (by omega)
  rw [en, en1]
  refine join2_ok (fun y z w' => ∃ s0 r0 : Nat, y = (s0 : Int) ∧ z = (r0 : Int) ∧ P.length ≤ s0 ∧ s0 ≤ r0 ∧ r0 ≤ P.length + X.length ∧ r0 ≤ mid ∧ mid + X.length ≤ s0 + X.length + Y.length ∧ (s0 = P.length ∨ mid + (P.length + X.length) = s0 + (P.length + X.length + Y.length)) ∧ (r0 = P.length + X.length ∨ r0 = mid) ∧ w' = w) (fun kj hkj => ite_ok (fun hgt => hkj _ _ _ ?_) fun hle => hkj _ _ _ ?_) ?_
  ·have hgt : ((P.length + X.length : Nat) : Int) > (mid : Int) := of_decide_eq_true hgt
   exact ⟨mid + (P.length + X.length) - (P.length + X.length + Y.length), mid, wr (by omega) (by omega), rfl, by omega, by omega, by omega, by omega, by omega, .inr (by omega), .inr rfl, rfl⟩
  ·have hle : ¬ ((P.length + X.length : Nat) : Int) > (mid : Int) := of_decide_eq_false hle
   exact ⟨P.length, P.length + X.length, rfl, rfl, by omega, by omega, by omega, by omega, by omega, .inl rfl, .inl rfl, rfl⟩
  rintro y z w' ⟨s0, r0, rfl, rfl, c1, c2, c3, c4, c5, c6, c7, hw'⟩
  replace hw' := hw'.symm
  subst hw'
  refine join1_ok (c := .int .i64) (fun (i : Int) w' => ∃ s : Nat, i = (s : Int) ∧ s0 ≤ s ∧ s ≤ r0 ∧ (s = s0 ∨ ∀ x y, V[s - 1]? = some x → V[mid + (P.length + X.length) - s]? = some y → behind (hvHit x) (hvHit y) = false) ∧ (s = r0 ∨ ∀ x y, V[s]? = some x → V[mid + (P.length + X.length) - 1 - s]? = some y → behind (hvHit x) (hvHit y) = true) ∧ HRow w' b T V rest ∧ Fr (oneB b) w w') (fun kj hkj => ?_) ?_
  ·refine loop_ok (vs := [.one (.int .i64), .one (.int .i64)]) (fun xs w' => ∃ i j : Nat, s0 ≤ i ∧ i ≤ j ∧ j ≤ r0 ∧ (show Int from xs.1.1) = (i : Int) ∧ (show Int from xs.2.1.1) = (j : Int) ∧ (i = s0 ∨ ∀ x y, V[i - 1]? = some x → V[mid + (P.length + X.length) - i]? = some y → behind (hvHit x) (hvHit y) = false) ∧ (j = r0 ∨ ∀ x y, V[j]? = some x → V[mid + (P.length + X.length) - 1 - j]? = some y → behind (hvHit x) (hvHit y) = true) ∧ HRow w' b T V rest ∧ Fr (oneB b) w w')
    (fun xs => (show Int from xs.2.1.1).toNat - (show Int from xs.1.1).toNat) ?_ (xs := (((s0 : Int), ()), (((r0 : Int), ()), ()))) ⟨s0, r0, Nat.le_refl _, c2, Nat.le_refl _, rfl, rfl, .inl rfl, .inl rfl, h, Fr.refl _ _⟩
   rintro rec ⟨⟨i0, ⟨⟩⟩, ⟨⟨j0, ⟨⟩⟩, ⟨⟩⟩⟩ w1 ⟨i, j, hsi, hij, hjr, hi, hj, I1, I2, hr, F1⟩ hrec
   change i0 = _ at hi
   change j0 = _ at hj
   subst hi hj
   refine ite_ok (fun hlt => ?_) fun hge => ?_
   rotate_left
   ·have hge : ¬ (i : Int) < (j : Int) := of_decide_eq_false hge
    have : i = j := by omega
    subst this
    exact hkj _ _ ⟨i, rfl, hsi, hjr, I1, I2, hr, F1⟩
   have hlt : (i : Int) < (j : Int) := of_decide_eq_true hlt
   rw [half_ok (by omega)]
   generalize hc : (i + j) / 2 = c'
   have hc1 : i ≤ c' := by omega
   have hc2 : c' < j := by omega
   have ep : IntKind.wrap .i64 (((mid + (P.length + X.length) - 1 : Nat) : Int) - (c' : Int)) = ((mid + (P.length + X.length) - 1 - c' : Nat) : Int) := wr (by omega) (by omega)
   obtain ⟨y, hy⟩ : ∃ y, V[mid + (P.length + X.length) - 1 - c']? = some y := ⟨_, List.getElem?_eq_getElem (by omega)⟩
   obtain ⟨x, hx⟩ : ∃ x, V[c']? = some x := ⟨_, List.getElem?_eq_getElem (by omega)⟩
   refine join_in (vs := [.one (.int .i64), .one (.int .i64)]) (drew_ok fun w2 F2 z2 => ?_)
   rw [ep]
   have hr2 : HRow w2 b T V rest := Blk.fr hr F2 fun h => h
   have G2 : Fr (oneB b) w w2 := F1.then F2 fun _ _ h => h.elim
   refine hrow_ld hr2 hn hy (hrow_ld hr2 hn hx (callCmp_ok hf y x fun m w3 hm F3 => join_in (vs := [.one (.int .i64), .one (.int .i64)]) ?_))
   have hr3 : HRow w3 b T V rest := Blk.fr hr2 F3 fun h => h
   have G3 : Fr (oneB b) w w3 := G2.then F3 fun _ _ h => h.elim
   have ei : IntKind.wrap .i64 ((c' : Int) + 1) = ((c' + 1 : Nat) : Int) := wr (by omega) (by omega)
   refine ite_ok (fun hcc => ?_) fun hcc => ?_
   ·have hcc : behind (hvHit x) (hvHit y) = false := by rw [← hm]; simpa using hcc
    refine hrec ((_, ()), ((_, ()), ())) _ ⟨c' + 1, j, by omega, by omega, hjr, ei, rfl, .inr fun x' y' hx' hy' => ?_, I2, hr3, G3⟩ ?_
    ·rw [show c' + 1 - 1 = c' by omega, hx] at hx'
     rw [show mid + (P.length + X.length) - (c' + 1) = mid + (P.length + X.length) - 1 - c' by omega, hy] at hy'
     cases hx'
     cases hy'
     exact hcc
    ·show ((j : Int)).toNat - (IntKind.wrap .i64 ((c' : Int) + 1)).toNat < ((j : Int)).toNat - ((i : Int)).toNat
     rw [ei]
     simp only [Int.toNat_natCast]
     omega
   ·have hcc : behind (hvHit x) (hvHit y) = true := by rw [← hm]; simpa using hcc
    refine hrec ((_, ()), ((_, ()), ())) _ ⟨i, c', by omega, by omega, by omega, rfl, rfl, I1, .inr fun x' y' hx' hy' => ?_, hr3, G3⟩ ?_
    ·rw [hx] at hx'
     rw [hy] at hy'
     cases hx'
     cases hy'
     exact hcc
    ·show ((c' : Int)).toNat - ((i : Int)).toNat < ((j : Int)).toNat - ((i : Int)).toNat
     simp only [Int.toNat_natCast]
     omega
  rintro i w1 ⟨s, rfl, hs0, hsr, I1, I2, hr, F1⟩
  have ee : IntKind.wrap .i64 (((mid + (P.length + X.length) : Nat) : Int) - (s : Int)) = ((mid + (P.length + X.length) - s : Nat) : Int) := wr (by omega) (by omega)
  rw [ee]
  obtain ⟨X1, X2, hX12, hX1⟩ := part_at X (s - P.length) (by omega)
  obtain ⟨Y1, Y2, hY12, hY1⟩ := part_at Y (mid + (P.length + X.length) - s - (P.length + X.length)) (by omega)
  have hXl : X.length = X1.length + X2.length := by rw [hX12, List.length_append]
  have hYl : Y.length = Y1.length + Y2.length := by rw [hY12, List.length_append]
  have hcross : ∀ x ∈ hvs X1 ++ hvs Y1, ∀ y ∈ hvs X2 ++ hvs Y2, behind x y = false := by
   refine cross_ok (by rw [← hvs_append, ← hX12]; exact dX) (by rw [← hvs_append, ← hY12]; exact dY) (fun x y hpos hx hy => ?_) (fun x y hpos hx hy => ?_)
   ·rw [hvs, List.length_map] at hpos
    rw [hvs, List.length_map, List.getElem?_map, Option.map_eq_some_iff] at hx
    rw [hvs, List.getElem?_map, Option.map_eq_some_iff] at hy
    obtain ⟨x, hx, rfl⟩ := hx
    obtain ⟨y, hy, rfl⟩ := hy
    have hy0 := (List.getElem?_eq_some_iff.1 hy).1
    rcases I1 with rfl | I1
    ·omega
    ·refine I1 x y ?_ ?_
     ·have := atX (X1.length - 1) (by omega)
      rw [show P.length + (X1.length - 1) = s - 1 by omega] at this
      rw [this, hX12, List.getElem?_append_left (by omega)]
      exact hx
     ·have := atY (Y1.length) (by omega)
      rw [show P.length + X.length + Y1.length = mid + (P.length + X.length) - s by omega] at this
      rw [this, hY12, List.getElem?_append_right (by omega), Nat.sub_self]
      exact hy
   ·rw [hvs, List.length_map] at hpos
    rw [hvs, List.length_map, List.getElem?_map, Option.map_eq_some_iff] at hx
    rw [hvs, List.getElem?_map, Option.map_eq_some_iff] at hy
    obtain ⟨x, hx, rfl⟩ := hx
    obtain ⟨y, hy, rfl⟩ := hy
    have hy0 := (List.getElem?_eq_some_iff.1 hy).1
    rcases I2 with rfl | I2
    ·omega
    ·refine behind_asym (I2 y x ?_ ?_)
     ·have := atX X1.length (by omega)
      rw [show P.length + X1.length = s by omega] at this
      rw [this, hX12, List.getElem?_append_right (by omega), Nat.sub_self]
      exact hy
     ·have := atY (Y1.length - 1) (by omega)
      rw [show P.length + X.length + (Y1.length - 1) = mid + (P.length + X.length) - 1 - s by omega] at this
      rw [this, hY12, List.getElem?_append_left (by omega)]
      exact hx
  have dX1 : Down (hvs X1) := (down_append.1 (show Down (hvs X1 ++ hvs X2) by rw [← hvs_append, ← hX12]; exact dX)).1
  have dX2 : Down (hvs X2) := (down_append.1 (show Down (hvs X1 ++ hvs X2) by rw [← hvs_append, ← hX12]; exact dX)).2.1
  have dY1 : Down (hvs Y1) := (down_append.1 (show Down (hvs Y1 ++ hvs Y2) by rw [← hvs_append, ← hY12]; exact dY)).1
  have dY2 : Down (hvs Y2) := (down_append.1 (show Down (hvs Y1 ++ hvs Y2) by rw [← hvs_append, ← hY12]; exact dY)).2.1
  clear I1 I2 c6 c7
  refine join1_ok (c := .bool) (fun (t : Bool) w' => t = decide (s < P.length + X.length ∧ P.length + X.length < mid + (P.length + X.length) - s) ∧ w' = w1) (fun kj hkj => ite_ok (fun hlt => hkj _ _ ⟨?_, rfl⟩) fun hlt => hkj _ _ ⟨?_, rfl⟩) ?_
  ·have hlt : (s : Int) < ((P.length + X.length : Nat) : Int) := of_decide_eq_true hlt
   exact decide_eq_decide.2 (by omega)
  ·have hlt : ¬ (s : Int) < ((P.length + X.length : Nat) : Int) := of_decide_eq_false hlt
   exact (decide_eq_false (by omega)).symm
  rintro t w' ⟨rfl, hw'⟩
  replace hw' := hw'.symm
  subst hw'
  refine join0_ok (fun w' => HRow w' b T (P ++ (X1 ++ (Y1 ++ (X2 ++ (Y2 ++ Z))))) rest ∧ Fr (oneB b) w w') (fun kj hkj => ite_ok (fun ht => ?_) fun ht => hkj _ ⟨?_, F1⟩) ?_
  ·have ht := of_decide_eq_true ht
   have hr' : HRow w1 b T ((P ++ X1) ++ (X2 ++ (Y1 ++ (Y2 ++ Z)))) rest := by
    have : V = (P ++ X1) ++ (X2 ++ (Y1 ++ (Y2 ++ Z))) := by rw [← hV, hX12, hY12]; simp only [List.append_assoc]
    rw [← this]
    exact hr
   have hrot := rotate_ok (n := n) (c := c) (fv := fv) hr' (by rw [hlen, hXl, hYl]; simp only [List.length_append]; omega) (by omega) (by omega) hb
   have l1 : (P ++ X1).length = s := by rw [List.length_append]; omega
   rw [l1, show s + X2.length = P.length + X.length by omega, show P.length + X.length + Y1.length = mid + (P.length + X.length) - s by omega] at hrot
   refine callRow_ok hrot ?_
   rintro V' w2 rfl h2 F2
   exact hkj _ ⟨by simpa only [List.append_assoc] using h2, st_fr F1 F2⟩
  ·have ht := of_decide_eq_false ht
   have : V = P ++ (X1 ++ (Y1 ++ (X2 ++ (Y2 ++ Z)))) := by
    rw [← hV, hX12, hY12]
    rcases Nat.eq_zero_or_pos X2.length with e | e
    ·have := List.eq_nil_of_length_eq_zero e
     subst this
     simp only [List.append_assoc, List.append_nil, List.nil_append]
    ·have := List.eq_nil_of_length_eq_zero (show Y1.length = 0 by omega)
     subst this
     simp only [List.append_assoc, List.nil_append]
   rw [← this]
   exact hr
  rintro w2 ⟨h2, F2⟩
  refine join1_ok (c := .bool) (fun (t : Bool) w' => t = decide (P.length < s ∧ s < mid) ∧ w' = w2) (fun kj hkj => ite_ok (fun hlt => hkj _ _ ⟨?_, rfl⟩) fun hlt => hkj _ _ ⟨?_, rfl⟩) ?_
  ·have hlt : (P.length : Int) < (s : Int) := of_decide_eq_true hlt
   exact decide_eq_decide.2 (by omega)
  ·have hlt : ¬ (P.length : Int) < (s : Int) := of_decide_eq_false hlt
   exact (decide_eq_false (by omega)).symm
  rintro t w' ⟨rfl, hw'⟩
  replace hw' := hw'.symm
  subst hw'
  refine join0_ok (fun w' => ∃ W1, HRow w' b T (P ++ (W1 ++ (X2 ++ (Y2 ++ Z)))) rest ∧ W1.length = X1.length + Y1.length ∧ (hvs W1).Perm (hvs X1 ++ hvs Y1) ∧ Down (hvs W1) ∧ Fr (oneB b) w w') (fun kj hkj => ite_ok (fun ht => ?_) fun ht => hkj _ ⟨X1 ++ Y1, by simpa only [List.append_assoc] using h2, List.length_append, by rw [hvs_append], ?_, F2⟩) ?_
  ·have ht := of_decide_eq_true ht
   have hm := ih (w := w2) (P := P) (X := X1) (Y := Y1) (Z := X2 ++ (Y2 ++ Z)) (by omega) (by omega) (by omega) dX1 dY1 h2 (by rw [hlen, hXl, hYl]; simp only [List.length_append]; omega)
   rw [show P.length + X1.length = s by omega, show s + Y1.length = mid by omega] at hm
   refine callRow_ok hm ?_
   rintro V' w3 ⟨W1, rfl, g1, g2, g3⟩ h3 F3
   exact hkj _ ⟨W1, h3, g1, g2, g3, st_fr F2 F3⟩
  ·have ht := of_decide_eq_false ht
   rcases Nat.eq_zero_or_pos X1.length with e | e
   ·have := List.eq_nil_of_length_eq_zero e
    subst this
    simpa using dY1
   ·have := List.eq_nil_of_length_eq_zero (show Y1.length = 0 by omega)
    subst this
    simpa using dX1
  rintro w3 ⟨W1, h3, g1, g2, g3, F3⟩
  refine join1_ok (c := .bool) (fun (t : Bool) w' => t = decide (mid < mid + (P.length + X.length) - s ∧ mid + (P.length + X.length) - s < P.length + X.length + Y.length) ∧ w' = w3) (fun kj hkj => ite_ok (fun hlt => hkj _ _ ⟨?_, rfl⟩) fun hlt => hkj _ _ ⟨?_, rfl⟩) ?_
  ·have hlt : (mid : Int) < ((mid + (P.length + X.length) - s : Nat) : Int) := of_decide_eq_true hlt
   exact decide_eq_decide.2 (by omega)
  ·have hlt : ¬ (mid : Int) < ((mid + (P.length + X.length) - s : Nat) : Int) := of_decide_eq_false hlt
   exact (decide_eq_false (by omega)).symm
  rintro t w' ⟨rfl, hw'⟩
  replace hw' := hw'.symm
  subst hw'
  refine join0_ok (fun w' => ∃ W2, HRow w' b T (P ++ (W1 ++ (W2 ++ Z))) rest ∧ W2.length = X2.length + Y2.length ∧ (hvs W2).Perm (hvs X2 ++ hvs Y2) ∧ Down (hvs W2) ∧ Fr (oneB b) w w') (fun kj hkj => ite_ok (fun ht => ?_) fun ht => hkj _ ⟨X2 ++ Y2, by simpa only [List.append_assoc] using h3, List.length_append, by rw [hvs_append], ?_, F3⟩) ?_
  ·have ht := of_decide_eq_true ht
   have h3' : HRow w3 b T ((P ++ W1) ++ (X2 ++ (Y2 ++ Z))) rest := by simpa only [List.append_assoc] using h3
   have hm := ih (w := w3) (P := P ++ W1) (X := X2) (Y := Y2) (Z := Z) (by omega) (by omega) (by omega) dX2 dY2 h3' (by rw [hlen, hXl, hYl]; simp only [List.length_append]; omega)
   have l1 : (P ++ W1).length = mid := by rw [List.length_append]; omega
   rw [l1, show mid + X2.length = mid + (P.length + X.length) - s by omega, show mid + (P.length + X.length) - s + Y2.length = P.length + X.length + Y.length by omega] at hm
   refine callRow_ok hm ?_
   rintro V' w4 ⟨W2, rfl, q1, q2, q3⟩ h4 F4
   exact hkj _ ⟨W2, by simpa only [List.append_assoc] using h4, q1, q2, q3, st_fr F3 F4⟩
  ·have ht := of_decide_eq_false ht
   rcases Nat.eq_zero_or_pos X2.length with e | e
   ·have := List.eq_nil_of_length_eq_zero e
    subst this
    simpa using dY2
   ·have := List.eq_nil_of_length_eq_zero (show Y2.length = 0 by omega)
    subst this
    simpa using dX2
  rintro w4 ⟨W2, h4, q1, q2, q3, F4⟩
  obtain ⟨hp, hd'⟩ := halves_ok hcross g2 q2 g3 q3
  refine ⟨rfl, _, ⟨W1 ++ W2, rfl, by rw [List.length_append]; omega, ?_, ?_⟩, by simpa only [List.append_assoc] using h4, F4⟩
  ·rw [hvs_append, hX12, hY12, hvs_append, hvs_append]
   exact hp
  ·rw [hvs_append]
   exact hd'
end Go.Proofs.YticokfpaoiekgaaGreatDoor
end
