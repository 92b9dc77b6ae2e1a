/- The finder law behind FRanksCard: one part of its proof (joined by program out of my own texts). No condition. -/
import Derived.Test.YticokfpaoiekgaaGreatDoorFRkBI
section
namespace Go.Shp
open Go.Lex
theorem down_append {A B : List Hit} : Down (A ++ B) ↔ Down A ∧ Down B ∧ ∀ x ∈ A, ∀ y ∈ B, behind x y = false := List.pairwise_append
theorem behind_le {a b c : Hit} (h1 : behind a b = false) (h2 : behind b c = false) : behind a c = false := by
  rw [Bool.eq_false_iff]
  intro h
  by_cases hb : behind b a = true
  · rw [behind_trans hb h] at h2
    cases h2
  · have e : a = b := behind_tri h1 (by simpa using hb)
    rw [e, h2] at h
    cases h
theorem down_at {L : List Hit} (hd : Down L) {i j : Nat} {x y : Hit} (hij : i ≤ j) (hx : L[i]? = some x) (hy : L[j]? = some y) : behind x y = false := by
  obtain ⟨hi, ex⟩ := List.getElem?_eq_some_iff.1 hx
  obtain ⟨hj, ey⟩ := List.getElem?_eq_some_iff.1 hy
  rcases Nat.lt_or_eq_of_le hij with h | h
  · have := List.pairwise_iff_getElem.1 hd i j hi hj h
    rw [ex, ey] at this
    exact this
  · subst h
    rw [ex] at ey
    rw [ey]
    exact behind_irr _
theorem cross_ok {X1 X2 Y1 Y2 : List Hit} (hX : Down (X1 ++ X2)) (hY : Down (Y1 ++ Y2))
    (h1 : ∀ x y, 0 < X1.length → X1[X1.length - 1]? = some x → Y2[0]? = some y → behind x y = false)
    (h2 : ∀ x y, 0 < Y1.length → Y1[Y1.length - 1]? = some x → X2[0]? = some y → behind x y = false) :
    ∀ x ∈ X1 ++ Y1, ∀ y ∈ X2 ++ Y2, behind x y = false := by
  obtain ⟨hX1, hX2, hXX⟩ := down_append.1 hX
  obtain ⟨hY1, hY2, hYY⟩ := down_append.1 hY
  have key : ∀ {A B : List Hit}, Down A → Down B → (∀ x y, 0 < A.length → A[A.length - 1]? = some x → B[0]? = some y → behind x y = false) → ∀ x ∈ A, ∀ y ∈ B, behind x y = false := by
    intro A B hA hB h x hx y hy
    obtain ⟨i, hi⟩ := List.mem_iff_getElem?.1 hx
    obtain ⟨j, hj⟩ := List.mem_iff_getElem?.1 hy
    have hil := (List.getElem?_eq_some_iff.1 hi).1
    have hjl := (List.getElem?_eq_some_iff.1 hj).1
    have e1 : A[A.length - 1]? = some (A[A.length - 1]'(by omega)) := List.getElem?_eq_getElem _
    have e2 : B[0]? = some (B[0]'(by omega)) := List.getElem?_eq_getElem _
    exact behind_le (down_at hA (by omega) hi e1) (behind_le (h _ _ (by omega) e1 e2) (down_at hB (by omega) e2 hj))
  intro x hx y hy
  rcases List.mem_append.1 hx with hx | hx <;> rcases List.mem_append.1 hy with hy | hy
  · exact hXX x hx y hy
  · exact key hX1 hY2 h1 x hx y hy
  · exact key hY1 hX2 h2 x hx y hy
  · exact hYY x hx y hy
theorem halves_ok {X1 X2 Y1 Y2 W1 W2 : List Hit} (h : ∀ x ∈ X1 ++ Y1, ∀ y ∈ X2 ++ Y2, behind x y = false) (p1 : W1.Perm (X1 ++ Y1)) (p2 : W2.Perm (X2 ++ Y2)) (d1 : Down W1) (d2 : Down W2) :
    (W1 ++ W2).Perm ((X1 ++ X2) ++ (Y1 ++ Y2)) ∧ Down (W1 ++ W2) := by
  refine ⟨(p1.append p2).trans ?_, down_append.2 ⟨d1, d2, fun x hx y hy => h x (p1.mem_iff.1 hx) y (p2.mem_iff.1 hy)⟩⟩
  rw [List.append_assoc, List.append_assoc]
  refine List.Perm.append_left X1 ?_
  rw [← List.append_assoc, ← List.append_assoc]
  exact List.Perm.append_right Y2 List.perm_append_comm
theorem one_in {x : Hit} {A B : List Hit} (hd : Down (A ++ B)) (h1 : ∀ y ∈ A, behind y x = false) (h2 : ∀ y ∈ B, behind x y = false) : Down (A ++ x :: B) := by
  obtain ⟨a, b, c⟩ := down_append.1 hd
  refine down_append.2 ⟨a, List.pairwise_cons.2 ⟨h2, b⟩, fun y hy z hz => ?_⟩
  rcases List.mem_cons.1 hz with rfl | hz
  · exact h1 y hy
  · exact c y hy z hz
end Go.Shp
end
section
namespace Go.Proofs.YticokfpaoiekgaaGreatDoor
open Go.Lift Go.Lex Go.Shp
def HRow (w : World) (b : Nat) (T : TypeId) (V : List HV3) (rest : List Value) : Prop := Blk w b T (V.flatMap hvCells ++ rest)
abbrev hvArg (v : HV3) : Value := .agg #[.string v.1, .string v.2.1, .int .i64 v.2.2]
abbrev hvs (V : List HV3) : List Hit := V.map hvHit
theorem hv_at {V : List HV3} {i : Nat} {v : HV3} (hv : V[i]? = some v) {rest : List Value} {j : Nat} {u : Value} (hj : (hvCells v)[j]? = some u) : (V.flatMap hvCells ++ rest)[i * 3 + j]? = some u := by
  have hjl : j < 3 := (List.getElem?_eq_some_iff.1 hj).1
  have hil := (List.getElem?_eq_some_iff.1 hv).1
  have hlen := flat_length hvCells 3 (l := V) (fun _ _ => rfl)
  rw [List.getElem?_append_left (by rw [hlen]; omega), flat_at hvCells 3 (fun _ _ => rfl) hv j hjl]
  exact hj
theorem flat_set1 : ∀ {V : List HV3} {i : Nat} (_ : i < V.length) (v : HV3) (rest : List Value), ((((V.flatMap hvCells ++ rest).set (i * 3) (.string v.1)).set (i * 3 + 1) (.string v.2.1)).set (i * 3 + 2) (.int .i64 v.2.2)) = (V.set i v).flatMap hvCells ++ rest
  | x :: V, 0, _, v, rest => by rfl
  | x :: V, i + 1, h, v, rest => by
    have ih := flat_set1 (V := V) (i := i) (by simpa using h) v rest
    have e : (i + 1) * 3 = i * 3 + 3 := by omega
    rw [List.set_cons_succ, List.flatMap_cons, List.flatMap_cons, List.append_assoc, List.append_assoc, ← ih, e]
    rfl
section
variable {R : Ending → World → Prop} {w : World} {b : Nat} {T : TypeId} {V : List HV3} {rest : List Value}
theorem hrow_ld {i n : Nat} {v : HV3} {K : ByteArray → ByteArray → Int → G} (h : HRow w b T V rest) (hn : n = V.length) (hv : V[i]? = some v) (hk : K v.1 v.2.1 v.2.2 R w) :
    idxG (some ⟨b, 0, none⟩) n (i : Int) 3 (fun (a : Addr) => ldG .str (a.add 0) (fun (s : ByteArray) => ldG .str (a.add 1) (fun (n : ByteArray) => ldG (.int .i64) (a.add 2) (fun (r : Int) => K s n r)))) R w := by
  have hi := (List.getElem?_eq_some_iff.1 hv).1
  refine idxB_ok (n := n) (i := i) (by omega) ?_
  simp only [Addr.add_lit, Nat.zero_add, Nat.add_zero]
  exact ld_ok (c := .str) (Blk.cell h (hv_at hv (j := 0) rfl)) (ld_ok (c := .str) (Blk.cell h (hv_at hv (j := 1) rfl)) (ld_ok (c := .int .i64) (Blk.cell h (hv_at hv (j := 2) rfl)) hk))
theorem hrow_st {i n : Nat} {v : HV3} {k : G} (h : HRow w b T V rest) (hn : n = V.length) (hi : i < V.length) (hk : ∀ w', HRow w' b T (V.set i v) rest → Fr (oneB b) w w' → k R w') :
    idxG (some ⟨b, 0, none⟩) n (i : Int) 3 (fun (a : Addr) => stG (a.add 0) (.string v.1) (stG (a.add 1) (.string v.2.1) (stG (a.add 2) (.int .i64 v.2.2) k))) R w := by
  have hlen := flat_length hvCells 3 (l := V) (fun _ _ => rfl)
  refine idxB_ok (n := n) (i := i) (by omega) ?_
  simp only [Addr.add_lit, Nat.zero_add, Nat.add_zero]
  refine Blk.st h rfl (by rw [List.length_append, hlen]; omega) fun w1 B1 F1 => B1.st rfl (by rw [List.length_set, List.length_append, hlen]; omega) fun w2 B2 F2 => B2.st rfl (by rw [List.length_set, List.length_set, List.length_append, hlen]; omega) fun w3 B3 F3 => hk _ ?_ (st_fr (st_fr F1 F2) F3)
  rw [flat_set1 hi] at B3
  exact B3
theorem hrow_swap {p q n : Nat} {x y : HV3} {k : G} (h : HRow w b T V rest) (hn : n = V.length) (hp : V[p]? = some x) (hq : V[q]? = some y) (hk : ∀ w', HRow w' b T ((V.set q x).set p y) rest → Fr (oneB b) w w' → k R w') :
    idxG (some ⟨b, 0, none⟩) n (p : Int) 3 (fun (a : Addr) => ldG .str (a.add 0) (fun (s0 : ByteArray) => ldG .str (a.add 1) (fun (n0 : ByteArray) => ldG (.int .i64) (a.add 2) (fun (r0 : Int) =>
      idxG (some ⟨b, 0, none⟩) n (q : Int) 3 (fun (a : Addr) => ldG .str (a.add 0) (fun (s1 : ByteArray) => ldG .str (a.add 1) (fun (n1 : ByteArray) => ldG (.int .i64) (a.add 2) (fun (r1 : Int) =>
        idxG (some ⟨b, 0, none⟩) n (q : Int) 3 (fun (a : Addr) => stG (a.add 0) (.string s0) (stG (a.add 1) (.string n0) (stG (a.add 2) (.int .i64 r0)
          (idxG (some ⟨b, 0, none⟩) n (p : Int) 3 (fun (a : Addr) => stG (a.add 0) (.string s1) (stG (a.add 1) (.string n1) (stG (a.add 2) (.int .i64 r1) k))))))))))))))) R w := by
  have hpl := (List.getElem?_eq_some_iff.1 hp).1
  have hql := (List.getElem?_eq_some_iff.1 hq).1
  refine hrow_ld h hn hp (hrow_ld h hn hq (hrow_st (v := x) h hn hql fun w1 h1 F1 => hrow_st (v := y) h1 (by rw [List.length_set]; exact hn) (by rw [List.length_set]; exact hpl) fun w2 h2 F2 => hk _ h2 (st_fr F1 F2)))
end
theorem at_mid {α : Type} (P M : List α) (x : α) : (P ++ x :: M)[P.length]? = some x := by simp
theorem swap_mid {α : Type} (P M Z : List α) (x y : α) : ((P ++ x :: (M ++ y :: Z)).set P.length y).set (P.length + 1 + M.length) x = P ++ y :: (M ++ x :: Z) := by
  rw [List.set_append_right _ _ (Nat.le_refl _), Nat.sub_self, List.set_cons_zero, List.set_append_right _ _ (by omega), show P.length + 1 + M.length - P.length = M.length + 1 by omega, List.set_cons_succ, List.set_append_right _ _ (Nat.le_refl _), Nat.sub_self, List.set_cons_zero]
theorem swap_mid' {α : Type} (P M Z : List α) (x y : α) : ((P ++ x :: (M ++ y :: Z)).set (P.length + 1 + M.length) x).set P.length y = P ++ y :: (M ++ x :: Z) := by
  rw [← swap_mid P M Z x y, List.set_comm _ _ (by omega)]
theorem at_mid2 {α : Type} (P M Z : List α) (x y : α) : (P ++ x :: (M ++ y :: Z))[P.length + 1 + M.length]? = some y := by
  rw [List.getElem?_append_right (by omega), show P.length + 1 + M.length - P.length = M.length + 1 by omega, List.getElem?_cons_succ]
  simp
def RowP (b : Nat) (T : TypeId) (rest : List Value) (w : World) (Q : List HV3 → Prop) (e : Ending) (w' : World) : Prop := e = .returned (.tuple #[]) ∧ ∃ V', Q V' ∧ HRow w' b T V' rest ∧ Fr (oneB b) w w'
theorem callRow_ok {R : Ending → World → Prop} {w : World} {b : Nat} {T : TypeId} {rest : List Value} {Q : List HV3 → Prop} {f : FuncId} {args : Array Value} (hc : Calls Tryz.prog f args w (RowP b T rest w Q)) {k : G} (h : ∀ V' w', Q V' → HRow w' b T V' rest → Fr (oneB b) w w' → k R w') : callG Tryz.prog f args [] k R w :=
  call_ok hc fun _ w' ⟨he, V', hQ, hr, F⟩ => ⟨(), he, h V' w' hQ hr F⟩
theorem wr {i : Int} {n : Nat} (h : i = (n : Int)) (hn : n ≤ 4611686018427387904) : IntKind.wrap .i64 i = (n : Int) := by subst h; exact wrap_ok (by omega) (by omega)
theorem swapRange_ok {w : World} {b n c : Nat} {T : TypeId} {rest : List Value} {fv : Value} {P X M Y Z : List HV3} (h : HRow w b T (P ++ (X ++ (M ++ (Y ++ Z)))) rest) (hn : n = (P ++ (X ++ (M ++ (Y ++ Z)))).length) (hXY : X.length = Y.length) (hb : n ≤ 1000000) :
    Calls Tryz.prog 189 #[.slice (some ⟨b, 0, none⟩) n c, .int .i64 (P.length : Int), .int .i64 ((P.length + X.length + M.length : Nat) : Int), .int .i64 (X.length : Int), fv] w (RowP b T rest w fun V' => V' = P ++ (Y ++ (M ++ (X ++ Z)))) := by
  have hlen : n = P.length + X.length + M.length + Y.length + Z.length := by rw [hn]; simp only [List.length_append]; omega
  refine c189 ⟨some ⟨b, 0, none⟩, n, c⟩ _ _ _ _ ?_
  unfold t189
  refine join0_ok (fun w' => HRow w' b T (P ++ (Y ++ (M ++ (X ++ Z)))) rest ∧ Fr (oneB b) w w') (fun kend hkend => ?_) fun w' ⟨h1, F⟩ => ⟨rfl, _, rfl, h1, F⟩
  refine countL_ok X.length (by omega) (fun i w' => ∃ X1 X2 Y1 Y2, X = X1 ++ X2 ∧ Y = Y1 ++ Y2 ∧ X1.length = i ∧ Y1.length = i ∧ HRow w' b T (P ++ (Y1 ++ (X2 ++ (M ++ (X1 ++ (Y2 ++ Z)))))) rest ∧ Fr (oneB b) w w') (fun rec i w1 hi hI hrec => ?_) ⟨[], X, [], Y, rfl, rfl, rfl, rfl, h, Fr.refl _ _⟩
  obtain ⟨X1, X2, Y1, Y2, rfl, rfl, hx1, hy1, h1, F1⟩ := hI
  rw [List.length_append] at hi hrec hXY hlen
  rw [List.length_append] at hlen hXY
  refine ite_ok (fun hlt => ?_) fun hge => hkend _ ⟨?_, F1⟩
  · have hlt : (i : Int) < (((X1 ++ X2).length : Nat) : Int) := of_decide_eq_true hlt
    rw [List.length_append] at hlt
    obtain ⟨x, X2, rfl⟩ : ∃ x X', X2 = x :: X' := by cases X2 with | nil => simp at hlt; omega | cons x X' => exact ⟨x, X', rfl⟩
    obtain ⟨y, Y2, rfl⟩ : ∃ y Y', Y2 = y :: Y' := by cases Y2 with | nil => simp at hXY; omega | cons y Y' => exact ⟨y, Y', rfl⟩
    simp only [List.length_cons] at hlen hXY hlt hrec
    have eq : P ++ (Y1 ++ (x :: X2 ++ (M ++ (X1 ++ (y :: Y2 ++ Z))))) = (P ++ Y1) ++ x :: ((X2 ++ (M ++ X1)) ++ y :: (Y2 ++ Z)) := by simp only [List.append_assoc, List.cons_append]
    rw [eq] at h1
    have ep : IntKind.wrap .i64 (((P.length + (X1 ++ x :: X2).length + M.length : Nat) : Int) + (i : Int)) = (((P ++ Y1).length + 1 + (X2 ++ (M ++ X1)).length : Nat) : Int) := by
      refine wr ?_ ?_ <;> simp only [List.length_append, List.length_cons] <;> omega
    have eq' : IntKind.wrap .i64 ((P.length : Int) + (i : Int)) = (((P ++ Y1).length : Nat) : Int) := by
      refine wr ?_ ?_ <;> simp only [List.length_append] <;> omega
    refine join_in (vs := []) (drew_ok fun w2 F2 z2 => ?_)
    rw [ep, eq']
    refine hrow_swap (Blk.fr h1 F2 fun h => h) (by rw [hlen]; simp only [List.length_append, List.length_cons]; omega) (at_mid2 _ _ _ _ _) (at_mid _ _ _) fun w3 h3 F3 => hrec (by omega) _ ⟨X1 ++ [x], X2, Y1 ++ [y], Y2, by simp, by simp, by simp [hx1], by simp [hy1], ?_, st_fr (F1.then F2 fun _ _ h => h.elim) F3⟩
    rw [swap_mid] at h3
    have e2 : P ++ (Y1 ++ [y] ++ (X2 ++ (M ++ (X1 ++ [x] ++ (Y2 ++ Z))))) = (P ++ Y1) ++ y :: ((X2 ++ (M ++ X1)) ++ x :: (Y2 ++ Z)) := by simp only [List.append_assoc, List.cons_append, List.nil_append]
    rw [e2]
    exact h3
  · have hge : ¬ (i : Int) < (((X1 ++ X2).length : Nat) : Int) := of_decide_eq_false hge
    rw [List.length_append] at hge
    have e1 : X2 = [] := List.eq_nil_of_length_eq_zero (by omega)
    have e2 : Y2 = [] := List.eq_nil_of_length_eq_zero (by omega)
    subst e1 e2
    simpa using h1
theorem rotate_ok {w : World} {b n c : Nat} {T : TypeId} {rest : List Value} {fv : Value} {P X Y Z : List HV3} (h : HRow w b T (P ++ (X ++ (Y ++ Z))) rest) (hn : n = (P ++ (X ++ (Y ++ Z))).length) (hX : 0 < X.length) (hY : 0 < Y.length) (hb : n ≤ 1000000) :
    Calls Tryz.prog 150 #[.slice (some ⟨b, 0, none⟩) n c, .int .i64 (P.length : Int), .int .i64 ((P.length + X.length : Nat) : Int), .int .i64 ((P.length + X.length + Y.length : Nat) : Int), fv] w (RowP b T rest w fun V' => V' = P ++ (Y ++ (X ++ Z))) := by
  have hlen : n = P.length + X.length + Y.length + Z.length := by rw [hn]; simp only [List.length_append]; omega
  have htot : (P ++ (Y ++ (X ++ Z))).length = n := by rw [hlen]; simp only [List.length_append]; omega
  refine c150 ⟨some ⟨b, 0, none⟩, n, c⟩ _ _ _ _ ?_
  unfold t150
  generalize hT : P ++ (Y ++ (X ++ Z)) = V1 at htot
  have e1 : IntKind.wrap .i64 (((P.length + X.length : Nat) : Int) - (P.length : Int)) = (X.length : Int) := wr (by omega) (by omega)
  have e2 : IntKind.wrap .i64 (((P.length + X.length + Y.length : Nat) : Int) - ((P.length + X.length : Nat) : Int)) = (Y.length : Int) := wr (by omega) (by omega)
  rw [e1, e2]
  refine join1_ok (c := .int .i64) (fun (i : Int) w' => ∃ P' X' Y' Z', P' ++ (Y' ++ (X' ++ Z')) = V1 ∧ HRow w' b T (P' ++ (X' ++ (Y' ++ Z'))) rest ∧ P'.length + X'.length = P.length + X.length ∧ X'.length = Y'.length ∧ i = (X'.length : Int) ∧ Fr (oneB b) w w') (fun kj hkj => ?_) ?_
  · refine loop_ok (vs := [.one (.int .i64), .one (.int .i64)]) (fun xs w' => ∃ P' X' Y' Z', P' ++ (Y' ++ (X' ++ Z')) = V1 ∧ HRow w' b T (P' ++ (X' ++ (Y' ++ Z'))) rest ∧ P'.length + X'.length = P.length + X.length ∧ 0 < X'.length ∧ 0 < Y'.length ∧ (show Int from xs.1.1) = (X'.length : Int) ∧ (show Int from xs.2.1.1) = (Y'.length : Int) ∧ Fr (oneB b) w w')
      (fun xs => (show Int from xs.1.1).toNat + (show Int from xs.2.1.1).toNat) ?_ (xs := (((X.length : Int), ()), (((Y.length : Int), ()), ()))) ⟨P, X, Y, Z, hT, h, rfl, hX, hY, rfl, rfl, Fr.refl _ _⟩
    rintro rec ⟨⟨i, ⟨⟩⟩, ⟨⟨j, ⟨⟩⟩, ⟨⟩⟩⟩ w1 ⟨P', X', Y', Z', hT', h', hm, hX', hY', hi, hj, F1⟩ hrec
    change i = _ at hi
    change j = _ at hj
    subst hi hj
    have hl' : n = P'.length + X'.length + Y'.length + Z'.length := by rw [← htot, ← hT']; simp only [List.length_append]; omega
    refine ite_ok (fun hne => ?_) fun heq => hkj _ _ ⟨P', X', Y', Z', hT', h', hm, ?_, rfl, F1⟩
    rotate_left
    · have heq : (X'.length : Int) = (Y'.length : Int) := by simpa using heq
      omega
    have hne : (X'.length : Int) ≠ (Y'.length : Int) := by simpa using hne
    have e3 : IntKind.wrap .i64 (((P.length + X.length : Nat) : Int) - (X'.length : Int)) = (P'.length : Int) := wr (by omega) (by omega)
    rw [e3]
    refine join_in (vs := [.one (.int .i64), .one (.int .i64)]) (join_in (vs := [.one (.int .i64), .one (.int .i64)]) (ite_ok (fun hgt => ?_) fun hle => ?_))
    · have hgt : (X'.length : Int) > (Y'.length : Int) := of_decide_eq_true hgt
      obtain ⟨X1, X2, rfl, hX1⟩ : ∃ X1 X2, X' = X1 ++ X2 ∧ X1.length = Y'.length := ⟨X'.take Y'.length, X'.drop Y'.length, (List.take_append_drop _ _).symm, by rw [List.length_take]; omega⟩
      rw [List.length_append] at hm hgt hl' hX'
      have eq : P' ++ (X1 ++ X2 ++ (Y' ++ Z')) = P' ++ (X1 ++ (X2 ++ (Y' ++ Z'))) := by simp only [List.append_assoc]
      rw [eq] at h'
      have hs := swapRange_ok (n := n) (c := c) (fv := fv) h' (by rw [hl']; simp only [List.length_append]; omega) hX1 hb
      rw [show P'.length + X1.length + X2.length = P.length + X.length by omega, hX1] at hs
      refine callRow_ok hs ?_
      rintro V' w2 rfl h2 F2
      have e4 : IntKind.wrap .i64 (((X1 ++ X2).length : Int) - (Y'.length : Int)) = (X2.length : Int) := wr (by rw [List.length_append]; omega) (by omega)
      refine hrec ((_, ()), ((_, ()), ())) _ ⟨P' ++ Y', X2, X1, Z', ?_, by simpa only [List.append_assoc] using h2, by rw [List.length_append]; omega, by omega, by omega, e4, by rw [hX1], st_fr F1 F2⟩ ?_
      · rw [← hT']
        simp only [List.append_assoc]
      · show (IntKind.wrap .i64 (((X1 ++ X2).length : Int) - (Y'.length : Int))).toNat + (Y'.length : Int).toNat < ((X1 ++ X2).length : Int).toNat + (Y'.length : Int).toNat
        rw [e4, List.length_append]
        simp only [Int.toNat_natCast]
        omega
    · have hle : ¬ (X'.length : Int) > (Y'.length : Int) := of_decide_eq_false hle
      obtain ⟨Y1, Y2, rfl, hY2⟩ : ∃ Y1 Y2, Y' = Y1 ++ Y2 ∧ Y2.length = X'.length := ⟨Y'.take (Y'.length - X'.length), Y'.drop (Y'.length - X'.length), (List.take_append_drop _ _).symm, by rw [List.length_drop]; omega⟩
      rw [List.length_append] at hle hl' hY' hne
      have eq : P' ++ (X' ++ (Y1 ++ Y2 ++ Z')) = P' ++ (X' ++ (Y1 ++ (Y2 ++ Z'))) := by simp only [List.append_assoc]
      rw [eq] at h'
      have e6 : IntKind.wrap .i64 (((P.length + X.length : Nat) : Int) + ((Y1 ++ Y2).length : Int)) = ((P.length + X.length + (Y1.length + Y2.length) : Nat) : Int) := wr (by rw [List.length_append]; omega) (by omega)
      have e5 : IntKind.wrap .i64 (IntKind.wrap .i64 (((P.length + X.length : Nat) : Int) + ((Y1 ++ Y2).length : Int)) - (X'.length : Int)) = ((P'.length + X'.length + Y1.length : Nat) : Int) := by
        rw [e6]
        exact wr (by omega) (by omega)
      rw [e5]
      refine callRow_ok (swapRange_ok (n := n) (c := c) (fv := fv) h' (by rw [hl']; simp only [List.length_append]; omega) hY2.symm hb) ?_
      rintro V' w2 rfl h2 F2
      have e4 : IntKind.wrap .i64 (((Y1 ++ Y2).length : Int) - (X'.length : Int)) = (Y1.length : Int) := wr (by rw [List.length_append]; omega) (by omega)
      refine hrec ((_, ()), ((_, ()), ())) _ ⟨P', Y2, Y1, X' ++ Z', ?_, by simpa only [List.append_assoc] using h2, by omega, by omega, by omega, by rw [hY2], e4, st_fr F1 F2⟩ ?_
      · rw [← hT']
        simp only [List.append_assoc]
      · show (X'.length : Int).toNat + (IntKind.wrap .i64 (((Y1 ++ Y2).length : Int) - (X'.length : Int))).toNat < (X'.length : Int).toNat + ((Y1 ++ Y2).length : Int).toNat
        rw [e4, List.length_append]
        simp only [Int.toNat_natCast]
        omega
  rintro i w1 ⟨P', X', Y', Z', hT', h', hm, hXY, rfl, F1⟩
  have hl' : n = P'.length + X'.length + Y'.length + Z'.length := by rw [← htot, ← hT']; simp only [List.length_append]; omega
  have e3 : IntKind.wrap .i64 (((P.length + X.length : Nat) : Int) - (X'.length : Int)) = (P'.length : Int) := wr (by omega) (by omega)
  rw [e3]
  have hs := swapRange_ok (M := []) (n := n) (c := c) (fv := fv) h' (by rw [hl']; simp only [List.length_append, List.nil_append]; omega) hXY hb
  rw [show P'.length + X'.length + ([] : List HV3).length = P.length + X.length by simp; omega] at hs
  refine callRow_ok hs ?_
  rintro V' w2 rfl h2 F2
  exact ⟨rfl, _, hT', by simpa using h2, st_fr F1 F2⟩
end Go.Proofs.YticokfpaoiekgaaGreatDoor
end
