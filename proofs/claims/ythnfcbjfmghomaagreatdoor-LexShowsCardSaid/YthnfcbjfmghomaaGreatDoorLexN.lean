/- Answers that the document fixes. No condition. -/
import Derived.Test.YthnfcbjfmghomaaGreatDoorLexM
namespace Go.Proofs.YthnfcbjfmghomaaGreatDoor
open Go.Lift Go.Lex
/-- two rows of tokens are the same -/
def SameP (X Y : List (Int × ByteArray × Int)) (at' : Bool) : Prop := X.length = Y.length ∧ ∀ (i : Nat) (x y : Int × ByteArray × Int), X[i]? = some x → Y[i]? = some y → x.1 = y.1 ∧ x.2.1 = y.2.1 ∧ (at' = true → x.2.2 = y.2.2)
section
variable {w : World}
theorem Same_ok {l0 l1 : Sl} {X Y : List (Int × ByteArray × Int)} (h0 : RdT w l0 X) (h1 : RdT w l1 Y) (at' : Bool) (hn : X.length ≤ 1000000000) :
    Calls Tryz.prog 21 #[.slice l0.a l0.n l0.c, .slice l1.a l1.n l1.c, .bool at'] w fun e w' => ∃ r : Bool, e = .returned (.bool r) ∧ (r = true ↔ SameP X Y at') ∧ Fr noB w w' := by
  have hn0 := h0.1
  have hn1 := h1.1
  apply c21
  unfold t21
  refine ite_ok (fun h => ⟨false, rfl, ⟨fun h => (by cases h), fun hs => ?_⟩, Fr.refl _ _⟩) fun h => ?_
  · have h : ¬ (l0.n : Int) = (l1.n : Int) := by simpa using h
    exact absurd hs.1 (by omega)
  have h : (l0.n : Int) = (l1.n : Int) := by simpa using h
  refine join0_ok (fun w' => SameP X Y at' ∧ Fr noB w w') (fun kend hkend => ?_) (fun w' ⟨hs, F⟩ => ⟨true, rfl, ⟨fun _ => hs, fun _ => rfl⟩, F⟩)
  refine count_ok l0.n (by omega) (fun k w' => (∀ (i : Nat) (x y : Int × ByteArray × Int), i < k → X[i]? = some x → Y[i]? = some y → x.1 = y.1 ∧ x.2.1 = y.2.1 ∧ (at' = true → x.2.2 = y.2.2)) ∧ Fr noB w w') (fun rec k w1 hk hI hrec => ?_) ⟨fun i x y h => by omega, Fr.refl _ _⟩
  obtain ⟨hall, F1⟩ := hI
  refine ite_ok (fun hlt => ?_) fun hge => hkend _ ⟨⟨by omega, fun i x y hx hy => hall i x y ?_ hx hy⟩, F1⟩
  · have hlt : (k : Int) < (l0.n : Int) := of_decide_eq_true hlt
    obtain ⟨x, hx⟩ : ∃ x, X[k]? = some x := ⟨_, List.getElem?_eq_getElem (by omega)⟩
    obtain ⟨y, hy⟩ : ∃ y, Y[k]? = some y := ⟨_, List.getElem?_eq_getElem (by omega)⟩
    have D : ∀ {w' : World}, Fr noB w1 w' → ∃ g o g' o', l0.a = some ⟨g, o, none⟩ ∧ l1.a = some ⟨g', o', none⟩ ∧ (w'.cell? ⟨g, o + k * 3, none⟩ = some (.int .i64 x.1) ∧ w'.cell? ⟨g, o + k * 3 + 1, none⟩ = some (.string x.2.1) ∧ w'.cell? ⟨g, o + k * 3 + 2, none⟩ = some (.int .i64 x.2.2)) ∧
        (w'.cell? ⟨g', o' + k * 3, none⟩ = some (.int .i64 y.1) ∧ w'.cell? ⟨g', o' + k * 3 + 1, none⟩ = some (.string y.2.1) ∧ w'.cell? ⟨g', o' + k * 3 + 2, none⟩ = some (.int .i64 y.2.2)) := fun F => by
      obtain ⟨g, o, a1, a2⟩ := (h0.fr (F1.tr F)).2 k x hx
      obtain ⟨g', o', b1, b2⟩ := (h1.fr (F1.tr F)).2 k y hy
      exact ⟨g, o, g', o', a1, b1, a2, b2⟩
    refine join_in ?_
    refine join1_ok (c := .bool) (fun (b : Bool) w' => (b = false ↔ (x.1 = y.1 ∧ x.2.1 = y.2.1 ∧ (at' = true → x.2.2 = y.2.2))) ∧ Fr noB w1 w') (fun kj hkj => ?_) ?_
    · refine drew_ok fun w2 F2 z2 => ?_
      obtain ⟨g, o, g', o', ha, hb, ⟨x0, x1, x2⟩, ⟨y0, y1, y2⟩⟩ := D F2
      rw [ha, hb]
      have i0 : ∀ {K : Addr → G} {R : Ending → World → Prop}, K ⟨g, o + k * 3, none⟩ R w2 → idxG (some ⟨g, o, none⟩) l0.n (k : Int) 3 K R w2 := fun hK => idxB_ok (by omega) hK
      have i1 : ∀ {K : Addr → G} {R : Ending → World → Prop}, K ⟨g', o' + k * 3, none⟩ R w2 → idxG (some ⟨g', o', none⟩) l1.n (k : Int) 3 K R w2 := fun hK => idxB_ok (by omega) hK
      refine i0 (ld_ok (c := .int .i64) x0 (i1 (ld_ok (c := .int .i64) y0 (ite_ok (fun hne => hkj _ _ ⟨⟨fun h => (by cases h), fun hh => ?_⟩, F2⟩) fun he => ?_))))
      · have hne : ¬ x.1 = y.1 := by simpa using hne
        exact absurd hh.1 hne
      have he : x.1 = y.1 := by simpa using he
      refine i0 (ld_ok (c := .str) x1 (i1 (ld_ok (c := .str) y1 ?_)))
      rw [eq_bl]
      refine ite_ok (fun hne => hkj _ _ ⟨⟨fun h => (by cases h), fun hh => ?_⟩, F2⟩) fun he2 => ?_
      · have hne : ¬ bl x.2.1 = bl y.2.1 := by simpa using hne
        exact absurd (by rw [hh.2.1]) hne
      have he2 : x.2.1 = y.2.1 := ba_ext (by simpa using he2)
      refine ite_ok (fun hat => i0 (ld_ok (c := .int .i64) x2 (i1 (ld_ok (c := .int .i64) y2 (hkj _ _ ⟨?_, F2⟩))))) fun hat => hkj _ _ ⟨⟨fun _ => ⟨he, he2, fun h => (by rw [hat] at h; cases h)⟩, fun _ => rfl⟩, F2⟩
      constructor
      · intro h3
        exact ⟨he, he2, fun _ => by simpa using h3⟩
      · rintro ⟨_, _, h3⟩
        rw [h3 hat]
        simp
    rintro b w2 ⟨hb, F2⟩
    refine ite_ok (fun h => ⟨false, rfl, ⟨fun h => (by cases h), fun hs => ?_⟩, F1.tr F2⟩) fun h => hrec (by omega) _ ⟨fun i x' y' hi hx' hy' => ?_, F1.tr F2⟩
    · rw [hb.2 (hs.2 k x y hx hy)] at h
      cases h
    · rcases Nat.lt_succ_iff_lt_or_eq.1 hi with hi | rfl
      · exact hall i x' y' hi hx' hy'
      · rw [hx] at hx'
        rw [hy] at hy'
        cases hx'
        cases hy'
        exact hb.1 h
  · have hge : ¬ (k : Int) < (l0.n : Int) := of_decide_eq_false hge
    have := (List.getElem?_eq_some_iff.1 hx).1
    omega
end
end Go.Proofs.YthnfcbjfmghomaaGreatDoor
