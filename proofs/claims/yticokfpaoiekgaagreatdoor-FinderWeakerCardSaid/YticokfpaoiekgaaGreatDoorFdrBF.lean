/- The law behind: one part of its proof (joined by program out of my own texts). No condition. -/
import Derived.Test.YticokfpaoiekgaaGreatDoorFdrBE
section
namespace Go.Proofs.YticokfpaoiekgaaGreatDoor
open Go.Lift Go.Lex Go.Shp
def HRow (w : World) (b : Nat) (T : TypeId) (V : List HV3) (rest : List Value) : Prop := Blk w b T (V.flatMap hvCells ++ rest)
abbrev hvArg (v : HV3) : Value := .agg #[.string v.1, .string v.2.1, .int .i64 v.2.2]
abbrev hvs (V : List HV3) : List Hit := V.map hvHit
theorem hv_at {V : List HV3} {i : Nat} {v : HV3} (hv : V[i]? = some v) {rest : List Value} {j : Nat} {u : Value} (hj : (hvCells v)[j]? = some u) : (V.flatMap hvCells ++ rest)[i * 3 + j]? = some u := by
 have hjl : j < 3 := (List.getElem?_eq_some_iff.1 hj).1
 have hil := (List.getElem?_eq_some_iff.1 hv).1
 have hlen := flat_length hvCells 3 (l := V) (fun _ _ => rfl)
 rw [List.getElem?_append_left (by rw [hlen]; omega), flat_at hvCells 3 (fun _ _ => rfl) hv j hjl]
 exact hj
theorem flat_set1 : ∀ {V : List HV3} {i : Nat} (_ : i < V.length) (v : HV3) (rest : List Value), ((((V.flatMap hvCells ++ rest).set (i * 3) (.string v.1)).set (i * 3 + 1) (.string v.2.1)).set (i * 3 + 2) (.int .i64 v.2.2)) = (V.set i v).flatMap hvCells ++ rest
 | x :: V, 0, _, v, rest => by rfl
 | x :: V, i + 1, h, v, rest => by
  have ih := flat_set1 (V := V) (i := i) (by simpa using h) v rest
  have e : (i + 1) * 3 = i * 3 + 3 := by omega
  rw [List.set_cons_succ, List.flatMap_cons, List.flatMap_cons, List.append_assoc, List.append_assoc, ← ih, e]
  rfl
section
variable {R : Ending → World → Prop} {w : World} {b : Nat} {T : TypeId} {V : List HV3} {rest : List Value}
theorem hrow_ld {i n : Nat} {v : HV3} {K : ByteArray → ByteArray → Int → G} (h : HRow w b T V rest) (hn : n = V.length) (hv : V[i]? = some v) (hk : K v.1 v.2.1 v.2.2 R w) :
  idxG (some ⟨b, 0, none⟩) n (i : Int) 3 (fun (a : Addr) => ldG .str (a.add 0) (fun (s : ByteArray) => ldG .str (a.add 1) (fun (n : ByteArray) => ldG (.int .i64) (a.add 2) (fun (r : Int) => K s n r)))) R w := by
 have hi := (List.getElem?_eq_some_iff.1 hv).1
 refine idxB_ok (n := n) (i := i) (by omega) ?_
 simp only [Addr.add_lit, Nat.zero_add, Nat.add_zero]
 exact ld_ok (c := .str) (Blk.cell h (hv_at hv (j := 0) rfl)) (ld_ok (c := .str) (Blk.cell h (hv_at hv (j := 1) rfl)) (ld_ok (c := .int .i64) (Blk.cell h (hv_at hv (j := 2) rfl)) hk))
theorem hrow_st {i n : Nat} {v : HV3} {k : G} (h : HRow w b T V rest) (hn : n = V.length) (hi : i < V.length) (hk : ∀ w', HRow w' b T (V.set i v) rest → Fr (oneB b) w w' → k R w') :
  idxG (some ⟨b, 0, none⟩) n (i : Int) 3 (fun (a : Addr) => stG (a.add 0) (.string v.1) (stG (a.add 1) (.string v.2.1) (stG (a.add 2) (.int .i64 v.2.2) k))) R w := by
 have hlen := flat_length hvCells 3 (l := V) (fun _ _ => rfl)
 refine idxB_ok (n := n) (i := i) (by omega) ?_
 simp only [Addr.add_lit, Nat.zero_add, Nat.add_zero]
 refine Blk.st h rfl (by rw [List.length_append, hlen]; omega) fun w1 B1 F1 => B1.st rfl (by rw [List.length_set, List.length_append, hlen]; omega) fun w2 B2 F2 => B2.st rfl (by rw [List.length_set, List.length_set, List.length_append, hlen]; omega) fun w3 B3 F3 => hk _ ?_ (st_fr (st_fr F1 F2) F3)
 rw [flat_set1 hi] at B3
 exact B3
theorem hrow_swap {p q n : Nat} {x y : HV3} {k : G} (h : HRow w b T V rest) (hn : n = V.length) (hp : V[p]? = some x) (hq : V[q]? = some y) (hk : ∀ w', HRow w' b T ((V.set q x).set p y) rest → Fr (oneB b) w w' → k R w') :
  idxG (some ⟨b, 0, none⟩) n (p : Int) 3 (fun (a : Addr) => ldG .str (a.add 0) (fun (s0 : ByteArray) => ldG .str (a.add 1) (fun (n0 : ByteArray) => ldG (.int .i64) (a.add 2) (fun (r0 : Int) =>
   idxG (some ⟨b, 0, none⟩) n (q : Int) 3 (fun (a : Addr) => ldG .str (a.add 0) (fun (s1 : ByteArray) => ldG .str (a.add 1) (fun (n1 : ByteArray) => ldG (.int .i64) (a.add 2) (fun (r1 : Int) =>
    idxG (some ⟨b, 0, none⟩) n (q : Int) 3 (fun (a : Addr) => stG (a.add 0) (.string s0) (stG (a.add 1) (.string n0) (stG (a.add 2) (.int .i64 r0)
     (idxG (some ⟨b, 0, none⟩) n (p : Int) 3 (fun (a : Addr) => stG (a.add 0) (.string s1) (stG (a.add 1) (.string n1) (stG (a.add 2) (.int .i64 r1) k))))))))))))))) R w := by
 have hpl := (List.getElem?_eq_some_iff.1 hp).1
 have hql := (List.getElem?_eq_some_iff.1 hq).1
 refine hrow_ld h hn hp (hrow_ld h hn hq (hrow_st (v := x) h hn hql fun w1 h1 F1 => hrow_st (v := y) h1 (by rw [List.length_set]; exact hn) (by rw [List.length_set]; exact hpl) fun w2 h2 F2 => hk _ h2 (st_fr F1 F2)))
end
theorem at_mid {α : Type} (P M : List α) (x : α) : (P ++ x :: M)[P.length]? = some x := by simp
theorem swap_mid {α : Type} (P M Z : List α) (x y : α) : ((P ++ x :: (M ++ y :: Z)).set P.length y).set (P.length + 1 + M.length) x = P ++ y :: (M ++ x :: Z) := by
 rw [List.set_append_right _ _ (Nat.le_refl _), Nat.sub_self, List.set_cons_zero, List.set_append_right _ _ (by omega), show P.length + 1 + M.length - P.length = M.length + 1 by omega, List.set_cons_succ, List.set_append_right _ _ (Nat.le_refl _), Nat.sub_self, List.set_cons_zero]
theorem swap_mid' {α : Type} (P M Z : List α) (x y : α) : ((P ++ x :: (M ++ y :: Z)).set (P.length + 1 + M.length) x).set P.length y = P ++ y :: (M ++ x :: Z) := by
 rw [← swap_mid P M Z x y, List.set_comm _ _ (by omega)]
theorem at_mid2 {α : Type} (P M Z : List α) (x y : α) : (P ++ x :: (M ++ y :: Z))[P.length + 1 + M.length]? = some y := by
 rw [List.getElem?_append_right (by omega), show P.length + 1 + M.length - P.length = M.length + 1 by omega, List.getElem?_cons_succ]
 simp
def RowP (b : Nat) (T : TypeId) (rest : List Value) (w : World) (Q : List HV3 → Prop) (e : Ending) (w' : World) : Prop := e = .returned (.tuple #[]) ∧ ∃ V', Q V' ∧ HRow w' b T V' rest ∧ Fr (oneB b) w w'
theorem callRow_ok {R : Ending → World → Prop} {w : World} {b : Nat} {T : TypeId} {rest : List Value} {Q : List HV3 → Prop} {f : FuncId} {args : Array Value} (hc : Calls Tryz.prog f args w (RowP b T rest w Q)) {k : G} (h : ∀ V' w', Q V' → HRow w' b T V' rest → Fr (oneB b) w w' → k R w') : callG Tryz.prog f args [] k R w :=
 call_ok hc fun _ w' ⟨he, V', hQ, hr, F⟩ => ⟨(), he, h V' w' hQ hr F⟩
theorem wr {i : Int} {n : Nat} (h : i = (n : Int)) (hn : n ≤ 4611686018427387904) : IntKind.wrap .i64 i = (n : Int) := by subst h; exact wrap_ok (by omega) (by omega)
theorem swapRange_ok {w : World} {b n c : Nat} {T : TypeId} {rest : List Value} {fv : Value} {P X M Y Z : List HV3} (h : HRow w b T (P ++ (X ++ (M ++ (Y ++ Z)))) rest) (hn : n = (P ++ (X ++ (M ++ (Y ++ Z)))).length) (hXY : X.length = Y.length) (hb : n ≤ 1000000) :
  Calls Tryz.prog 189 #[.slice (some ⟨b, 0, none⟩) n c, .int .i64 (P.length : Int), .int .i64 ((P.length + X.length + M.length : Nat) : Int), .int .i64 (X.length : Int), fv] w (RowP b T rest w fun V' => V' = P ++ (Y ++ (M ++ (X ++ Z)))) := by
 have hlen : n = P.length + X.length + M.length + Y.length + Z.length := by rw [hn]; simp only [List.length_append]; omega
 refine c189 ⟨some ⟨b, 0, none⟩, n, c⟩ _ _ _ _ ?_
 unfold t189 wrZ ivZ tvZ ld3xZ jn0Z lpIZ ixZ
 refine join0_ok (fun w' => HRow w' b T (P ++ (Y ++ (M ++ (X ++ Z)))) rest ∧ Fr (oneB b) w w') (fun kend hkend => ?_) fun w' ⟨h1, F⟩ => ⟨rfl, _, rfl, h1, F⟩
 refine countL_ok X.length (by omega) (fun i w' => ∃ X1 X2 Y1 Y2, X = X1 ++ X2 ∧ Y = Y1 ++ Y2 ∧ X1.length = i ∧ Y1.length = i ∧ HRow w' b T (P ++ (Y1 ++ (X2 ++ (M ++ (X1 ++ (Y2 ++ Z)))))) rest ∧ Fr (oneB b) w w') (fun rec i w1 hi hI hrec => ?_) ⟨[], X, [], Y, rfl, rfl, rfl, rfl, h, Fr.refl _ _⟩
 obtain ⟨X1, X2, Y1, Y2, rfl, rfl, hx1, hy1, h1, F1⟩ := hI
 rw [List.length_append] at hi hrec hXY hlen
 rw [List.length_append] at hlen hXY
 refine ite_ok (fun hlt => ?_) fun hge => hkend _ ⟨?_, F1⟩
 ·have hlt : (i : Int) < (((X1 ++ X2).length : Nat) : Int) := of_decide_eq_true hlt
  rw [List.length_append] at hlt
  obtain ⟨x, X2, rfl⟩ : ∃ x X', X2 = x :: X' := by cases X2 with | nil => simp at hlt; omega | cons x X' => exact ⟨x, X', rfl⟩
  obtain ⟨y, Y2, rfl⟩ : ∃ y Y', Y2 = y :: Y' := by cases Y2 with | nil => simp at hXY; omega | cons y Y' => exact ⟨y, Y', rfl⟩
  simp only [List.length_cons] at hlen hXY hlt hrec
  have eq : P ++ (Y1 ++ (x :: X2 ++ (M ++ (X1 ++ (y :: Y2 ++ Z))))) = (P ++ Y1) ++ x :: ((X2 ++ (M ++ X1)) ++ y :: (Y2 ++ Z)) := by simp only [List.append_assoc, List.cons_append]
  rw [eq] at h1
  have ep : IntKind.wrap .i64 (((P.length + (X1 ++ x :: X2).length + M.length : Nat) : Int) + (i : Int)) = (((P ++ Y1).length + 1 + (X2 ++ (M ++ X1)).length : Nat) : Int) := by
   refine wr ?_ ?_ <;> simp only [List.length_append, List.length_cons] <;> omega
  have eq' : IntKind.wrap .i64 ((P.length : Int) + (i : Int)) = (((P ++ Y1).length : Nat) : Int) := by
   refine wr ?_ ?_ <;> simp only [List.length_append] <;> omega
  refine join_in (vs := []) (drew_ok fun w2 F2 z2 => ?_)
  rw [ep, eq']
  refine hrow_swap (Blk.fr h1 F2 fun h => h) (by rw [hlen]; simp only [List.length_append, List.length_cons]; omega) (at_mid2 _ _ _ _ _) (at_mid _ _ _) fun w3 h3 F3 => hrec (by omega) _ ⟨X1 ++ [x], X2, Y1 ++ [y], Y2, by simp, by simp, by simp [hx1], by simp [hy1], ?_, st_fr (F1.then F2 fun _ _ h => h.elim) F3⟩
  rw [swap_mid] at h3
  have e2 : P ++ (Y1 ++ [y] ++ (X2 ++ (M ++ (X1 ++ [x] ++ (Y2 ++ Z))))) = (P ++ Y1) ++ y :: ((X2 ++ (M ++ X1)) ++ x :: (Y2 ++ Z)) := by simp only [List.append_assoc, List.cons_append, List.nil_append]
  rw [e2]
  exact h3
 ·have hge : ¬ (i : Int) < (((X1 ++ X2).length : Nat) : Int) := of_decide_eq_false hge
  rw [List.length_append] at hge
  have e1 : X2 = [] := List.eq_nil_of_length_eq_zero (by omega)
  have e2 : Y2 = [] := List.eq_nil_of_length_eq_zero (by omega)
  subst e1 e2
  simpa using h1
theorem rotate_ok {w : World} {b n c : Nat} {T : TypeId} {rest : List Value} {fv : Value} {P X Y Z : List HV3} (h : HRow w b T (P ++ (X ++ (Y ++ Z))) rest) (hn : n = (P ++ (X ++ (Y ++ Z))).length) (hX : 0 < X.length) (hY : 0 < Y.length) (hb : n ≤ 1000000) :
  Calls Tryz.prog 150 #[.slice (some ⟨b, 0, none⟩) n c, .int .i64 (P.length : Int), .int .i64 ((P.length + X.length : Nat) : Int), .int .i64 ((P.length + X.length + Y.length : Nat) : Int), fv] w (RowP b T rest w fun V' => V' = P ++ (Y ++ (X ++ Z))) := by
 have hlen : n = P.length + X.length + Y.length + Z.length := by rw [hn]; simp only [List.length_append]; omega
 have htot : (P ++ (Y ++ (X ++ Z))).length = n := by rw [hlen]; simp only [List.length_append]; omega
 refine c150 ⟨some ⟨b, 0, none⟩, n, c⟩ _ _ _ _ ?_
 unfold t150 wrZ ivZ svZ ca0Z jnIZ lpIIZ
 generalize hT : P ++ (Y ++ (X ++ Z)) = V1 at htot
 have e1 : IntKind.wrap .i64 (((P.length + X.length : Nat) : Int) - (P.length : Int)) = (X.length : Int) := wr (by omega) (by omega)
 have e2 : IntKind.wrap .i64 (((P.length + X.length + Y.length : Nat) : Int) - ((P.length + X.length : Nat) : Int)) = (Y.length : Int) := wr (by omega) (by omega)
 rw [e1, e2]
 refine join1_ok (c := .int .i64) (fun (i : Int) w' => ∃ P' X' Y' Z', P' ++ (Y' ++ (X' ++ Z')) = V1 ∧ HRow w' b T (P' ++ (X' ++ (Y' ++ Z'))) rest ∧ P'.length + X'.length = P.length + X.length ∧ X'.length = Y'.length ∧ i = (X'.length : Int) ∧ Fr (oneB b) w w') (fun kj hkj => ?_) ?_
 ·refine loop_ok (vs := [.one (.int .i64), .one (.int .i64)]) (fun xs w' => ∃ P' X' Y' Z', P' ++ (Y' ++ (X' ++ Z')) = V1 ∧ HRow w' b T (P' ++ (X' ++ (Y' ++ Z'))) rest ∧ P'.length + X'.length = P.length + X.length ∧ 0 < X'.length ∧ 0 < Y'.length ∧ (show Int from xs.1.1) = (X'.length : Int) ∧ (show Int from xs.2.1.1) = (Y'.length : Int) ∧ Fr (oneB b) w w')
   (fun xs => (show Int from xs.1.1).toNat + (show Int from xs.2.1.1).toNat) ?_ (xs := (((X.length : Int), ()), (((Y.length : Int), ()), ()))) ⟨P, X, Y, Z, hT, h, rfl, hX, hY, rfl, rfl, Fr.refl _ _⟩
  rintro rec ⟨⟨i, ⟨⟩⟩, ⟨⟨j, ⟨⟩⟩, ⟨⟩⟩⟩ w1 ⟨P', X', Y', Z', hT', h', hm, hX', hY', hi, hj, F1⟩ hrec
  change i = _ at hi
  change j = _ at hj
  subst hi hj
  have hl' : n = P'.length + X'.length + Y'.length + Z'.length := by rw [← htot, ← hT']; simp only [List.length_append]; omega
  refine ite_ok (fun hne => ?_) fun heq => hkj _ _ ⟨P', X', Y', Z', hT', h', hm, ?_, rfl, F1⟩
  rotate_left
  ·have heq : (X'.length : Int) = (Y'.length : Int) := by simpa using heq
   omega
  have hne : (X'.length : Int) ≠ (Y'.length : Int) := by simpa using hne
  have e3 : IntKind.wrap .i64 (((P.length + X.length : Nat) : Int) - (X'.length : Int)) = (P'.length : Int) := wr (by omega) (by omega)
  rw [e3]
  refine join_in (vs := [.one (.int .i64), .one (.int .i64)]) (join_in (vs := [.one (.int .i64), .one (.int .i64)]) (ite_ok (fun hgt => ?_) fun hle => ?_))
  ·have hgt : (X'.length : Int) > (Y'.length : Int) := of_decide_eq_true hgt
   obtain ⟨X1, X2, rfl, hX1⟩ : ∃ X1 X2, X' = X1 ++ X2 ∧ X1.length = Y'.length := ⟨X'.take Y'.length, X'.drop Y'.length, (List.take_append_drop _ _).symm, by rw [List.length_take]; omega⟩
   rw [List.length_append] at hm hgt hl' hX'
   have eq : P' ++ (X1 ++ X2 ++ (Y' ++ Z')) = P' ++ (X1 ++ (X2 ++ (Y' ++ Z'))) := by simp only [List.append_assoc]
   rw [eq] at h'
   have hs := swapRange_ok (n := n) (c := c) (fv := fv) h' (by rw [hl']; simp only [List.length_append]; omega) hX1 hb
   rw [show P'.length + X1.length + X2.length = P.length + X.length by omega, hX1] at hs
   refine callRow_ok hs ?_
   rintro V' w2 rfl h2 F2
   have e4 : IntKind.wrap .i64 (((X1 ++ X2).length : Int) - (Y'.length : Int)) = (X2.length : Int) := wr (by rw [List.length_append]; omega) (by omega)
   refine hrec ((_, ()), ((_, ()), ())) _ ⟨P' ++ Y', X2, X1, Z', ?_, by simpa only [List.append_assoc] using h2, by rw [List.length_append]; omega, by omega, by omega, e4, by rw [hX1], st_fr F1 F2⟩ ?_
   ·rw [← hT']
    simp only [List.append_assoc]
   ·show (IntKind.wrap .i64 (((X1 ++ X2).length : Int) - (Y'.length : Int))).toNat + (Y'.length : Int).toNat < ((X1 ++ X2).length : Int).toNat + (Y'.length : Int).toNat
    rw [e4, List.length_append]
    simp only [Int.toNat_natCast]
    omega
  ·have hle : ¬ (X'.length : Int) > (Y'.length : Int) := of_decide_eq_false hle
   obtain ⟨Y1, Y2, rfl, hY2⟩ : ∃ Y1 Y2, Y' = Y1 ++ Y2 ∧ Y2.length = X'.length := ⟨Y'.take (Y'.length - X'.length), Y'.drop (Y'.length - X'.length), (List.take_append_drop _ _).symm, by rw [List.length_drop]; omega⟩
   rw [List.length_append] at hle hl' hY' hne
   have eq : P' ++ (X' ++ (Y1 ++ Y2 ++ Z')) = P' ++ (X' ++ (Y1 ++ (Y2 ++ Z'))) := by simp only [List.append_assoc]
   rw [eq] at h'
   have e6 : IntKind.wrap .i64 (((P.length + X.length : Nat) : Int) + ((Y1 ++ Y2).length : Int)) = ((P.length + X.length + (Y1.length + Y2.length) : Nat) : Int) := wr (by rw [List.length_append]; omega) (by omega)
   have e5 : IntKind.wrap .i64 (IntKind.wrap .i64 (((P.length + X.length : Nat) : Int) + ((Y1 ++ Y2).length : Int)) - (X'.length : Int)) = ((P'.length + X'.length + Y1.length : Nat) : Int) := by
    rw [e6]
    exact wr (by omega) (by omega)
   rw [e5]
   refine callRow_ok (swapRange_ok (n := n) (c := c) (fv := fv) h' (by rw [hl']; simp only [List.length_append]; omega) hY2.symm hb) ?_
   rintro V' w2 rfl h2 F2
   have e4 : IntKind.wrap .i64 (((Y1 ++ Y2).length : Int) - (X'.length : Int)) = (Y1.length : Int) := wr (by rw [List.length_append]; omega) (by omega)
   refine hrec ((_, ()), ((_, ()), ())) _ ⟨P', Y2, Y1, X' ++ Z', ?_, by simpa only [List.append_assoc] using h2, by omega, by omega, by omega, by rw [hY2], e4, st_fr F1 F2⟩ ?_
   ·rw [← hT']
    simp only [List.append_assoc]
   ·show (X'.length : Int).toNat + (IntKind.wrap .i64 (((Y1 ++ Y2).length : Int) - (X'.length : Int))).toNat < (X'.length : Int).toNat + ((Y1 ++ Y2).length : Int).toNat
    rw [e4, List.length_append]
    simp only [Int.toNat_natCast]
    omega
 rintro i w1 ⟨P', X', Y', Z', hT', h', hm, hXY, rfl, F1⟩
 have hl' : n = P'.length + X'.length + Y'.length + Z'.length := by rw [← htot, ← hT']; simp only [List.length_append]; omega
 have e3 : IntKind.wrap .i64 (((P.length + X.length : Nat) : Int) - (X'.length : Int)) = (P'.length : Int) := wr (by omega) (by omega)
 rw [e3]
 have hs := swapRange_ok (M := []) (n := n) (c := c) (fv := fv) h' (by rw [hl']; simp only [List.length_append, List.nil_append]; omega) hXY hb
 rw [show P'.length + X'.length + ([] : List HV3).length = P.length + X.length by simp; omega] at hs
 refine callRow_ok hs ?_
 rintro V' w2 rfl h2 F2
 exact ⟨rfl, _, hT', by simpa using h2, st_fr F1 F2⟩
end Go.Proofs.YticokfpaoiekgaaGreatDoor
end
section
namespace Go.Shp
open Go.Lex
theorem cmp_behind (o nm o2 nm2 : B) (r r2 : Int) : decide ((if (if r2 < r then (-1 : Int) else if r2 > r then 1 else 0) ≠ 0 then (if r2 < r then (-1 : Int) else if r2 > r then 1 else 0) else if (if ltB o o2 then (-1 : Int) else if ltB o2 o then 1 else 0) ≠ 0 then (if ltB o o2 then (-1 : Int) else if ltB o2 o then 1 else 0) else (if ltB nm nm2 then (-1 : Int) else if ltB nm2 nm then 1 else 0)) < 0) = behind ⟨o2, nm2, r2⟩ ⟨o, nm, r⟩ := by
 unfold behind
 by_cases h1 : r2 = r
 ·subst h1
  by_cases h2 : o2 = o
  ·subst h2
   cases h3 : ltB nm nm2 <;> cases h4 : ltB nm2 nm <;> simp [ltB_irr]
  ·cases h3 : ltB o o2 with
   | true => simp [h2]
   | false =>
    have h4 := ltB_tri (Ne.symm h2) h3
    simp [h2, h4]
 ·by_cases h2 : r2 < r
  ·simp [h1, h2]
  ·have h3 : r2 > r := by omega
   simp [h1, h2, h3]
end Go.Shp
namespace Go.Proofs.YticokfpaoiekgaaGreatDoor
open Go.Lift Go.Lex Go.Shp
section
variable {w : World}
theorem cmpInt_ok (x y : Int) : Calls Tryz.prog 54 #[.int .i64 x, .int .i64 y] w fun e w' => e = .returned (.int .i64 (if x < y then -1 else if x > y then 1 else 0)) ∧ Fr noB w w' := by
 have hN : ∀ (x : Int) {w : World}, AnsB 84 #[.int .i64 x] w false := fun x w => by
  apply c84
  unfold t84
  exact ⟨by simp, Fr.refl _ _⟩
 apply c54
 unfold t54 ivZ caBZ
 refine callB_ok (hN x) fun w1 F1 => callB_ok (hN y) fun w2 F2 => ite_no rfl (ite_no rfl (ite_ok (fun h => ?_) fun h => ite_ok (fun h2 => ?_) fun h2 => ?_))
 ·exact ⟨by rw [if_pos (of_decide_eq_true h)], F1.tr F2⟩
 ·exact ⟨by rw [if_neg (of_decide_eq_false h), if_pos (of_decide_eq_true h2)], F1.tr F2⟩
 ·exact ⟨by rw [if_neg (of_decide_eq_false h), if_neg (of_decide_eq_false h2)], F1.tr F2⟩
theorem cmpStr_ok (x y : ByteArray) : Calls Tryz.prog 55 #[.string x, .string y] w fun e w' => e = .returned (.int .i64 (if ltB (bl x) (bl y) then -1 else if ltB (bl y) (bl x) then 1 else 0)) ∧ Fr noB w w' := by
 have hN : ∀ (x : ByteArray) {w : World}, AnsB 85 #[.string x] w false := fun x w => by
  apply c85
  unfold t85
  exact ⟨by simp, Fr.refl _ _⟩
 apply c55
 unfold t55 ivZ tvZ caBZ
 refine callB_ok (hN x) fun w1 F1 => callB_ok (hN y) fun w2 F2 => ite_no rfl (ite_no rfl ?_)
 rw [eq_bl, toList_bl, toList_bl, less_ltB, gt_ltB]
 refine ite_ok (fun h => ⟨by rw [if_pos h], F1.tr F2⟩) fun h => ite_ok (fun h2 => ⟨by rw [if_neg (by rw [h]; exact Bool.false_ne_true), if_pos h2], F1.tr F2⟩) fun h2 => ⟨by rw [if_neg (by rw [h]; exact Bool.false_ne_true), if_neg (by rw [h2]; exact Bool.false_ne_true)], F1.tr F2⟩
theorem cmpOr_ok {m : Nat} {T : TypeId} {x y z : Int} (B : Blk w m T [.int .i64 x, .int .i64 y, .int .i64 z]) : Calls Tryz.prog 53 #[.slice (some ⟨m, 0, none⟩) 3 3] w fun e w' => e = .returned (.int .i64 (if x ≠ 0 then x else if y ≠ 0 then y else z)) ∧ Fr noB w w' := by
 refine c53 ⟨some ⟨m, 0, none⟩, 3, 3⟩ ?_
 unfold t53 wrZ ivZ ldIZ jn0Z lpIZ ixZ
 refine join0_ok (fun w' => x = 0 ∧ y = 0 ∧ z = 0 ∧ Fr noB w w') (fun kend hkend => ?_) fun w' ⟨hx, hy, hz, F⟩ => ⟨by rw [hx, hy, hz]; rfl, F⟩
 refine countL_ok 3 (by omega) (fun i w' => (0 < i → x = 0) ∧ (1 < i → y = 0) ∧ (2 < i → z = 0) ∧ w' = w) (fun rec i w1 hi hI hrec => ?_) ⟨fun h => by omega, fun h => by omega, fun h => by omega, rfl⟩
 obtain ⟨h0, h1, h2, rfl⟩ := hI
 refine ite_ok (fun hlt => ?_) fun hge => ?_
 ·have hlt : (i : Int) < 3 := of_decide_eq_true hlt
  refine join_in (vs := []) (idxB_ok (n := 3) (i := i) (by omega) ?_)
  match i, hlt with
  | 0, _ =>
   refine B.ld (c := .int .i64) (x := x) (o := 0 + 0 * 1) rfl (ite_ok (fun h => ⟨?_, Fr.refl _ _⟩) fun h => hrec (by omega) _ ⟨fun _ => ?_, fun h => by omega, fun h => by omega, rfl⟩)
   ·have h : x ≠ 0 := by simpa using h
    rw [if_pos h]
   ·simpa using h
  | 1, _ =>
   refine B.ld (c := .int .i64) (x := y) (o := 0 + 1 * 1) rfl (ite_ok (fun h => ⟨?_, Fr.refl _ _⟩) fun h => hrec (by omega) _ ⟨fun _ => h0 (by omega), fun _ => ?_, fun h => by omega, rfl⟩)
   ·have h : y ≠ 0 := by simpa using h
    rw [if_neg (by simpa using h0 (by omega)), if_pos h]
   ·simpa using h
  | 2, _ =>
   refine B.ld (c := .int .i64) (x := z) (o := 0 + 2 * 1) rfl (ite_ok (fun h => ⟨?_, Fr.refl _ _⟩) fun h => hrec (by omega) _ ⟨fun _ => h0 (by omega), fun _ => h1 (by omega), fun _ => ?_, rfl⟩)
   ·rw [if_neg (by simpa using h0 (by omega)), if_neg (by simpa using h1 (by omega))]
   ·simpa using h
  | i + 3, h => omega
 ·have hge : ¬ (i : Int) < 3 := of_decide_eq_false hge
  exact hkend _ ⟨h0 (by omega), h1 (by omega), h2 (by omega), Fr.refl _ _⟩
theorem hitCmp_ok (x y : HV3) : Calls Tryz.prog 52 #[hvArg x, hvArg y] w fun e w' => ∃ n : Int, e = .returned (.int .i64 n) ∧ decide (n < 0) = behind (hvHit y) (hvHit x) ∧ Fr noB w w' := by
 obtain ⟨o, nm, r⟩ := x
 obtain ⟨o2, nm2, r2⟩ := y
 apply c52
 unfold t52 ivZ tvZ ldIZ ldSZ nwZ caIZ
 refine new_ok fun w1 m6 hm6 hs1 B1 F1 => new_ok fun w2 m7 hm7 hs2 C2 F2 => drew_ok fun w3 F3 z3 => ?_
 have B3 := (B1.fr F2 (fun h => h)).fr F3 (fun h => h)
 have C3 := C2.fr F3 (fun h => h)
 change Blk w3 m6 _ (hitCells o nm r) at B3
 change Blk w3 m7 _ (hitCells o2 nm2 r2) at C3
 have F13 := (F1.tr F2).tr F3
 refine C3.ld (c := .int .i64) (x := r2) (o := 2) rfl (B3.ld (c := .int .i64) (x := r) (o := 2) rfl (B3.ld (c := .str) (x := o) (o := 0) rfl (C3.ld (c := .str) (x := o2) (o := 0) rfl (B3.ld (c := .str) (x := nm) (o := 1) rfl (C3.ld (c := .str) (x := nm2) (o := 1) rfl ?_)))))
 refine callI_ok (cmpInt_ok r2 r) fun w4 F4 => ?_
 have B4 := B3.fr F4 (fun h => h)
 have C4 := C3.fr F4 (fun h => h)
 refine keep_cons (C4.held1 rfl) (keep_cons (B4.held1 rfl) (keep_cons (C4.held1 rfl) (keep_cons (B4.held1 rfl) (keep_nil ?_))))
 refine callI_ok (cmpStr_ok o o2) fun w5 F5 => ?_
 have B5 := B4.fr F5 (fun h => h)
 have C5 := C4.fr F5 (fun h => h)
 refine keep_cons (C5.held1 rfl) (keep_cons (B5.held1 rfl) (keep_nil ?_))
 refine callI_ok (cmpStr_ok nm nm2) fun w6 F6 => ?_
 have B6 := B5.fr F6 (fun h => h)
 have C6 := C5.fr F6 (fun h => h)
 refine keep_cons (B6.held1 rfl) (keep_cons (C6.held1 rfl) (keep_nil ?_))
 refine new_ok fun w7 m17 hm17 hs7 D7 F7 => ?_
 refine callI_ok (cmpOr_ok D7) fun w8 F8 => ?_
 have B8 := (B6.fr F7 (fun h => h)).fr F8 (fun h => h)
 have C8 := (C6.fr F7 (fun h => h)).fr F8 (fun h => h)
 refine keep_cons (C8.held1 rfl) (keep_cons (B8.held1 rfl) (keep_cons (B8.held1 rfl) (keep_cons (C8.held1 rfl) (keep_nil ⟨_, rfl, ?_, ((((F13.tr F4).tr F5).tr F6).tr F7).tr F8⟩))))
 exact cmp_behind _ _ _ _ _ _
end
def CmpH (fv : Value) : Prop := ∃ f, fv = .func (.func f) #[] #[] ∧ (resOf Tryz.prog f).isSome = true ∧ ∀ (x y : HV3) (w : World), Calls Tryz.prog f #[hvArg x, hvArg y] w fun e w' => ∃ n : Int, e = .returned (.int .i64 n) ∧ decide (n < 0) = behind (hvHit y) (hvHit x) ∧ Fr noB w w'
theorem cmpH_search : CmpH (.func (.func 52) #[] #[]) := ⟨_, rfl, by kernel_rfl, fun x y w => hitCmp_ok x y⟩
theorem callCmp_ok {R : Ending → World → Prop} {w : World} {fv : Value} (hf : CmpH fv) (x y : HV3) {k : Int → G} (h : ∀ n w', decide (n < 0) = behind (hvHit y) (hvHit x) → Fr noB w w' → k n R w') : callVG Tryz.prog fv #[.agg #[.string x.1, .string x.2.1, .int .i64 x.2.2], .agg #[.string y.1, .string y.2.1, .int .i64 y.2.2]] [.one (.int .i64)] k R w := by
 obtain ⟨f, rfl, hr, hc⟩ := hf
 refine ⟨f, #[], #[], rfl, hr, ?_⟩
 rw [Array.empty_append, Array.append_empty]
 exact (hc x y w).mono fun e w' ⟨n, he, hn, F⟩ => .inl ⟨((n, ()), ()), he, h n w' hn F⟩
theorem insertionH_ok {w : World} {b n c : Nat} {T : TypeId} {rest : List Value} {fv : Value} {P X Z : List HV3} (hf : CmpH fv) (h : HRow w b T (P ++ (X ++ Z)) rest) (hn : n = (P ++ (X ++ Z)).length) (hb : n ≤ 1000000) :
  Calls Tryz.prog 110 #[.slice (some ⟨b, 0, none⟩) n c, .int .i64 (P.length : Int), .int .i64 ((P.length + X.length : Nat) : Int), fv] w (RowP b T rest w fun V' => ∃ W, V' = P ++ (W ++ Z) ∧ W.length = X.length ∧ (hvs W).Perm (hvs X) ∧ Down (hvs W)) := by
 have hlen : n = P.length + X.length + Z.length := by rw [hn]; simp only [List.length_append]; omega
 refine c110 ⟨some ⟨b, 0, none⟩, n, c⟩ _ _ _ ?_
 unfold t110 wrZ ivZ tvZ ld3xZ jn0Z jnBZ lpIZ ixZ
 have e1 : IntKind.wrap .i64 ((P.length : Int) + 1) = ((P.length + 1 : Nat) : Int) := wr (by omega) (by omega)
 rw [e1]
 refine join0_ok (fun w' => ∃ W, HRow w' b T (P ++ (W ++ Z)) rest ∧ W.length = X.length ∧ (hvs W).Perm (hvs X) ∧ Down (hvs W) ∧ Fr (oneB b) w w') (fun kend hkend => ?_) fun w' ⟨W, h1, h2, h3, h4, F⟩ => ⟨rfl, _, ⟨W, rfl, h2, h3, h4⟩, h1, F⟩
 cases X with
 | nil =>
  refine loop1_ok (c := .int .i64) (fun (i : Int) w' => i = ((P.length + 1 : Nat) : Int) ∧ w' = w) (fun _ => 0) (fun rec i w1 hI hrec => ?_) ⟨rfl, rfl⟩
  obtain ⟨rfl, rfl⟩ := hI
  refine ite_no (decide_eq_false (by simp only [List.length_nil]; omega)) (hkend _ ⟨[], h, rfl, List.Perm.refl _, List.Pairwise.nil, Fr.refl _ _⟩)
 | cons x0 X0 =>
  refine loop1_ok (c := .int .i64) (fun (i : Int) w' => ∃ W X2, i = ((P.length + W.length : Nat) : Int) ∧ 0 < W.length ∧ W.length + X2.length = (x0 :: X0).length ∧ HRow w' b T (P ++ (W ++ (X2 ++ Z))) rest ∧ (hvs (W ++ X2)).Perm (hvs (x0 :: X0)) ∧ Down (hvs W) ∧ Fr (oneB b) w w') (fun (i : Int) => n - i.toNat) ?_
   ⟨[x0], X0, by simp, by simp, by simp; omega, h, List.Perm.refl _, List.pairwise_singleton _ _, Fr.refl _ _⟩
  rintro rec i w1 ⟨W, X2, rfl, hW, hl, h1, hp, hd, F1⟩ hrec
  refine ite_ok (fun hlt => ?_) fun hge => hkend _ ?_
  rotate_left
  ·have hge : ¬ ((P.length + W.length : Nat) : Int) < ((P.length + (x0 :: X0).length : Nat) : Int) := of_decide_eq_false hge
   have : X2 = [] := List.eq_nil_of_length_eq_zero (by omega)
   subst this
   rw [List.append_nil] at hp
   exact ⟨W, h1, by simpa using hl, hp, hd, F1⟩
  have hlt : ((P.length + W.length : Nat) : Int) < ((P.length + (x0 :: X0).length : Nat) : Int) := of_decide_eq_true hlt
  obtain ⟨x, X3, rfl⟩ : ∃ x X', X2 = x :: X' := by cases X2 with | nil => simp at hl hlt; omega | cons x X' => exact ⟨x, X', rfl⟩
  simp only [List.length_cons] at hl hlen hlt
  refine join_in (vs := []) ?_
  refine join0_ok (fun w' => ∃ A B, A ++ B = W ∧ HRow w' b T ((P ++ A) ++ (x :: (B ++ (X3 ++ Z)))) rest ∧ (∀ y ∈ hvs B, behind y (hvHit x) = true) ∧ (∀ y ∈ hvs A, behind y (hvHit x) = false) ∧ Fr (oneB b) w w') (fun kj hkj => ?_) ?_
  ·refine loop1_ok (c := .int .i64) (fun (j : Int) w' => ∃ A B, A ++ B = W ∧ j = ((P.length + A.length : Nat) : Int) ∧ HRow w' b T ((P ++ A) ++ (x :: (B ++ (X3 ++ Z)))) rest ∧ (∀ y ∈ hvs B, behind y (hvHit x) = true) ∧ Fr (oneB b) w w') (fun (j : Int) => j.toNat) ?_
    ⟨W, [], by simp, rfl, by simpa only [List.append_assoc, List.nil_append, List.cons_append] using h1, fun y hy => by simp at hy, F1⟩
   rintro rec2 j w2 ⟨A, B, rfl, rfl, h2, hB, F2⟩ hrec2
   rw [List.length_append] at hl hW
   have htl : n = ((P ++ A) ++ (x :: (B ++ (X3 ++ Z)))).length := by rw [hlen]; simp only [List.length_append, List.length_cons]; omega
   refine join1_ok (c := .bool) (fun (t : Bool) w' => t = (decide (0 < A.length) && (A.getLast?).any fun y => behind (hvHit y) (hvHit x)) ∧ HRow w' b T ((P ++ A) ++ (x :: (B ++ (X3 ++ Z)))) rest ∧ Fr (oneB b) w w') (fun kt hkt => drew_ok fun w3 F3 z3 => ?_) ?_
   ·have h3 : HRow w3 b T ((P ++ A) ++ (x :: (B ++ (X3 ++ Z)))) rest := Blk.fr h2 F3 fun h => h
    have F23 : Fr (oneB b) w w3 := F2.then F3 fun _ _ h => h.elim
    refine ite_ok (fun hgt => ?_) fun hle => hkt _ _ ⟨?_, h3, F23⟩
    rotate_left
    ·have hle : ¬ ((P.length + A.length : Nat) : Int) > (P.length : Int) := of_decide_eq_false hle
     rw [decide_eq_false (by omega)]
     rfl
    have hgt : ((P.length + A.length : Nat) : Int) > (P.length : Int) := of_decide_eq_true hgt
    obtain ⟨A1, y, rfl⟩ : ∃ A1 y, A = A1 ++ [y] := ⟨A.dropLast, A.getLast (by intro h; simp [h] at hgt), (List.dropLast_concat_getLast _).symm⟩
    simp only [List.length_append, List.length_cons, List.length_nil] at hl hgt
    have ej : ((P.length + (A1 ++ [y]).length : Nat) : Int) = (((P ++ (A1 ++ [y])).length : Nat) : Int) := by simp only [List.length_append]
    have ej1 : IntKind.wrap .i64 (((P.length + (A1 ++ [y]).length : Nat) : Int) - 1) = (((P ++ A1).length : Nat) : Int) := wr (by simp only [List.length_append, List.length_cons, List.length_nil]; omega) (by simp only [List.length_append]; omega)
    rw [ej1, ej]
    refine hrow_ld h3 htl (at_mid _ _ _) (hrow_ld h3 htl (v := y) ?_ (callCmp_ok hf x y fun m w4 hm F4 => hkt _ _ ⟨?_, Blk.fr h3 F4 fun h => h, F23.then F4 fun _ _ h => h.elim⟩))
    ·have : P ++ (A1 ++ [y]) ++ x :: (B ++ (X3 ++ Z)) = (P ++ A1) ++ y :: (x :: (B ++ (X3 ++ Z))) := by simp only [List.append_assoc, List.cons_append, List.nil_append]
     rw [this]
     exact at_mid _ _ _
    ·rw [hm, decide_eq_true (by simp), List.getLast?_concat]
     rfl
   rintro t w3 ⟨ht, h3, F3⟩
   refine ite_ok (fun h => ?_) fun h => hkj _ ⟨A, B, rfl, h3, hB, ?_, F3⟩
   ·rw [h] at ht
    have ht := ht.symm
    rw [Bool.and_eq_true] at ht
    have hA0 : 0 < A.length := of_decide_eq_true ht.1
    obtain ⟨A1, y, rfl⟩ : ∃ A1 y, A = A1 ++ [y] := ⟨A.dropLast, A.getLast (by intro h; simp [h] at hA0), (List.dropLast_concat_getLast _).symm⟩
    rw [List.getLast?_concat] at ht
    have hyx : behind (hvHit y) (hvHit x) = true := ht.2
    simp only [List.length_append, List.length_cons, List.length_nil] at hl
    have eV : P ++ (A1 ++ [y]) ++ x :: (B ++ (X3 ++ Z)) = (P ++ A1) ++ y :: ([] ++ x :: (B ++ (X3 ++ Z))) := by simp only [List.append_assoc, List.cons_append, List.nil_append]
    rw [eV] at h3 htl
    have ej : ((P.length + (A1 ++ [y]).length : Nat) : Int) = (((P ++ A1).length + 1 + ([] : List HV3).length : Nat) : Int) := by simp only [List.length_append, List.length_cons, List.length_nil]; omega
    have ej1 : IntKind.wrap .i64 (((P.length + (A1 ++ [y]).length : Nat) : Int) - 1) = (((P ++ A1).length : Nat) : Int) := wr (by simp only [List.length_append, List.length_cons, List.length_nil]; omega) (by simp only [List.length_append]; omega)
    refine join_in (vs := []) (drew_ok fun w4 F4 z4 => ?_)
    rw [ej1, ej]
    refine hrow_swap (Blk.fr h3 F4 fun h => h) htl (at_mid _ _ _) (at_mid2 _ _ _ _ _) fun w5 h5 F5 => hrec2 _ _ ⟨A1, y :: B, by simp, by simp only [List.length_append], ?_, ?_, st_fr (F3.then F4 fun _ _ h => h.elim) F5⟩ ?_
    ·rw [swap_mid'] at h5
     simpa only [List.append_assoc, List.cons_append, List.nil_append] using h5
    ·intro z hz
     rw [hvs, List.map_cons, List.mem_cons] at hz
     rcases hz with rfl | hz
     ·exact hyx
     ·exact hB z hz
    ·simp only [List.length_append, List.length_cons, List.length_nil, Int.toNat_natCast]
     omega
   ·rw [h] at ht
    have hdA : Down (hvs A) := by
     have := hd
     rw [hvs, List.map_append] at this
     exact (down_append.1 this).1
    intro z hz
    obtain ⟨k, hk⟩ := List.mem_iff_getElem?.1 hz
    have hkl := (List.getElem?_eq_some_iff.1 hk).1
    rw [hvs, List.length_map] at hkl
    obtain ⟨A1, y, rfl⟩ : ∃ A1 y, A = A1 ++ [y] := ⟨A.dropLast, A.getLast (by intro h; simp [h] at hkl), (List.dropLast_concat_getLast _).symm⟩
    rw [decide_eq_true (by simp), Bool.true_and, List.getLast?_concat] at ht
    have hyx : behind (hvHit y) (hvHit x) = false := ht.symm
    have hlast : (hvs (A1 ++ [y]))[A1.length]? = some (hvHit y) := by
     rw [hvs, List.map_append]
     simp
    exact behind_le (down_at hdA (by simp at hkl; omega) hk hlast) hyx
  rintro w3 ⟨A, B, rfl, h3, hB, hA, F3⟩
  rw [List.length_append] at hl hW
  have ei : IntKind.wrap .i64 (((P.length + (A ++ B).length : Nat) : Int) + 1) = ((P.length + (A ++ x :: B).length : Nat) : Int) := wr (by simp only [List.length_append, List.length_cons]; omega) (by simp only [List.length_append, List.length_cons]; omega)
  rw [ei]
  refine hrec _ _ ⟨A ++ x :: B, X3, rfl, by simp only [List.length_append, List.length_cons]; omega, by simp only [List.length_append, List.length_cons]; omega, by simpa only [List.append_assoc, List.cons_append] using h3, ?_, ?_, F3⟩ ?_
  ·refine List.Perm.trans ?_ hp
   refine List.Perm.map _ ?_
   rw [List.append_assoc, List.append_assoc]
   refine List.Perm.append_left A ?_
   rw [List.cons_append]
   exact List.perm_middle.symm
  ·rw [hvs, List.map_append, List.map_cons]
   have hd' := hd
   rw [hvs, List.map_append] at hd'
   exact one_in hd' hA fun y hy => behind_asym (hB y hy)
  ·simp only [List.length_append, List.length_cons, Int.toNat_natCast]
   omega
end Go.Proofs.YticokfpaoiekgaaGreatDoor
end
