/- The scanner's plain tests: names, numbers. No condition. -/
import Derived.Test.YthnfcbjfmghomaaGreatDoorLexA
namespace Go.Lift
theorem takeWhile_at {α : Type} {p : α → Bool} : ∀ {l : List α} {k : Nat}, (∀ i x, i < k → l[i]? = some x → p x = true) → k ≤ l.length → (∀ x, l[k]? = some x → p x = false) → l.takeWhile p = l.take k
  | [], k, _, _, _ => by simp
  | y :: l, 0, _, _, h2 => by simp [List.takeWhile, h2 y rfl]
  | y :: l, k + 1, h1, hk, h2 => by
    have hy := h1 0 y (by omega) rfl
    rw [List.takeWhile_cons, hy, List.take_succ_cons]
    simp only [if_true]
    rw [takeWhile_at (k := k) (fun i x hi hx => h1 (i + 1) x (by omega) (by simpa using hx)) (by simpa using hk) (fun x hx => h2 x (by simpa using hx))]
theorem takeWhile_length_all {α : Type} {p : α → Bool} : ∀ {l : List α}, ((l.takeWhile p).length = l.length) ↔ l.all p = true
  | [] => by simp
  | y :: l => by
    have ih := takeWhile_length_all (p := p) (l := l)
    rw [List.takeWhile_cons]
    cases hy : p y
    · simp [hy]
    · simp [hy]
      simpa using ih
theorem bl_cases (s : ByteArray) : bl s = [] ∨ ∃ x l, bl s = x :: l := by
  cases h : bl s with
  | nil => exact .inl rfl
  | cons x l => exact .inr ⟨x, l, rfl⟩
theorem bl_empty : bl (ByteArray.mk #[]) = [] := rfl
theorem bl_at {s : ByteArray} {i : Nat} (hi : i < s.size) : (bl s)[i]? = some ((bl s)[i]'(by rw [bl_length]; exact hi)) := List.getElem?_eq_getElem _
end Go.Lift
namespace Go.Proofs.YthnfcbjfmghomaaGreatDoor
open Go.Lift Go.Lex
section
variable {w : World}
/-- a function value that is a test of bytes -/
def PredV (fv : Value) (p : UInt8 → Bool) : Prop := ∃ f, fv = .func (.func f) #[] #[] ∧ (resOf Tryz.prog f).isSome = true ∧ ∀ (c : UInt8) (w : World), AnsB f #[.int .u8 (c.toNat : Int)] w (p c)
theorem callP_ok {R : Ending → World → Prop} {fv : Value} {p : UInt8 → Bool} (hp : PredV fv p) (c : UInt8) {k : Bool → G} (h : ∀ w', Fr noB w w' → k (p c) R w') : callVG Tryz.prog fv #[.int .u8 (c.toNat : Int)] [.one .bool] k R w := by
  obtain ⟨f, rfl, hr, hf⟩ := hp
  refine ⟨f, #[], #[], rfl, hr, ?_⟩
  have e : (#[] ++ #[Value.int .u8 (c.toNat : Int)] ++ #[] : Array Value) = #[.int .u8 (c.toNat : Int)] := by simp
  rw [e]
  exact (hf c w).mono fun _ w' ⟨he, F⟩ => ⟨((p c, ()), ()), he, h w' F⟩
theorem pred_small : PredV (.func (.func 27) #[] #[]) small := ⟨_, rfl, by kernel_rfl, fun c _ => small_ok c⟩
theorem pred_great : PredV (.func (.func 30) #[] #[]) great := ⟨_, rfl, by kernel_rfl, fun c _ => great_ok c⟩
theorem pred_rest : PredV (.func (.func 43) #[] #[]) rest := ⟨_, rfl, by kernel_rfl, fun c _ => rest_ok c⟩
theorem pred_lump : PredV (.func (.func 49) #[] #[]) lump := ⟨_, rfl, by kernel_rfl, fun c _ => lump_ok c⟩
theorem pred_line : PredV (.func (.func 34) #[] #[]) (· != 10) := ⟨_, rfl, by kernel_rfl, fun c _ => line_ok c⟩
theorem pred_inText : PredV (.func (.func 77) #[] #[]) inText := ⟨_, rfl, by kernel_rfl, fun c _ => inText_ok c⟩

theorem named_ok (s : ByteArray) (hs : s.size < 4611686018427387904) {fv : Value} {p : UInt8 → Bool} (hp : PredV fv p) : AnsB 26 #[.string s, fv] w (named p (bl s)) := by
  apply c26
  unfold t26
  have hsl := bl_length s
  refine join1_ok (c := .bool) (fun (b : Bool) w' => Fr noB w w' ∧ (b = true → named p (bl s) = false) ∧ (b = false → named p (bl s) = (bl s).all rest)) (fun k hk => ?_) ?_
  · rw [eq_bl, bl_empty]
    refine ite_ok (fun h => hk _ _ ⟨Fr.refl _ _, fun _ => ?_, fun e => by cases e⟩) fun h => ite_ok (fun h2 => hk _ _ ⟨Fr.refl _ _, fun _ => ?_, fun e => by cases e⟩) fun h2 => ?_
    · have h : bl s = [] := by simpa using h
      rw [h]
      rfl
    · have h2 : 24 < s.size := by simp only [decide_eq_true_eq] at h2; omega
      unfold named
      cases hb : bl s with
      | nil => rfl
      | cons x l =>
        rw [hb] at hsl
        simp only []
        rw [decide_eq_false (by omega)]
        rfl
    · have h : ¬ bl s = [] := by simpa using h
      have h2 : ¬ 24 < s.size := by simp only [decide_eq_false_iff_not] at h2; omega
      obtain ⟨x, l, hb⟩ : ∃ x l, bl s = x :: l := by
        cases hb : bl s with
        | nil => exact absurd hb h
        | cons x l => exact ⟨x, l, rfl⟩
      have h0 : 0 < s.size := by rw [← hsl, hb]; simp
      refine chr_ok (i := 0) h0 ?_
      have e0 : (bl s)[0]'(by rw [hsl]; exact h0) = x := by simp [hb]
      rw [e0]
      have hnm : named p (bl s) = (p x && (bl s).all rest) := by
        unfold named
        rw [hb]
        simp only []
        rw [decide_eq_true (by rw [← hb, hsl]; omega), Bool.true_and]
      refine callP_ok hp x fun w1 F1 => hk _ _ ⟨F1, fun e => ?_, fun e => ?_⟩
      · have e : p x = false := by simpa using e
        rw [hnm, e]
        rfl
      · have e : p x = true := by simpa using e
        rw [hnm, e]
        rfl
  rintro b w1 ⟨F1, ht, hf⟩
  refine ite_ok (fun h => ⟨by rw [ht h], F1⟩) fun h => ?_
  rw [hf h]
  refine join0_ok (fun w' => (bl s).all rest = true ∧ Fr noB w w') (fun kend hkend => ?_) (fun w' h => ⟨by rw [h.1], h.2⟩)
  refine count_ok s.size hs (fun k w' => (∀ i x, i < k → (bl s)[i]? = some x → rest x = true) ∧ Fr noB w w') (fun rec k w2 hk hI hrec => ?_) ⟨fun i x h => by omega, F1⟩
  obtain ⟨hall, F2⟩ := hI
  refine ite_ok (fun hlt => ?_) fun hge => hkend _ ⟨?_, F2⟩
  · have hlt : k < s.size := by simp only [decide_eq_true_eq] at hlt; omega
    refine join_in (chr_ok hlt (callB_ok (rest_ok _) fun w3 F3 => ite_ok (fun h => ⟨?_, F2.tr F3⟩) fun h => hrec hlt _ ⟨fun i x hi hx => ?_, F2.tr F3⟩))
    · have h : rest ((bl s)[k]'(by rw [hsl]; exact hlt)) = false := by simpa using h
      have : (bl s).all rest = false := by
        rw [Bool.eq_false_iff]
        intro e
        have := List.all_eq_true.1 e _ (List.getElem_mem (by rw [hsl]; exact hlt))
        rw [h] at this
        cases this
      rw [this]
    · rcases Nat.lt_succ_iff_lt_or_eq.1 hi with hi | rfl
      · exact hall i x hi hx
      · rw [bl_at hlt] at hx
        cases hx
        simpa using h
  · have hge : k = s.size := by simp only [decide_eq_false_iff_not] at hge; omega
    rw [List.all_eq_true]
    intro x hx
    obtain ⟨i, hi⟩ := List.mem_iff_getElem?.1 hx
    exact hall i x (by have := (List.getElem?_eq_some_iff.1 hi).1; omega) hi
theorem Name_ok (s : ByteArray) (hs : s.size < 4611686018427387904) : AnsB 14 #[.string s] w (isName (bl s)) := by
  apply c14
  unfold t14
  refine join1_ok (c := .bool) (fun (b : Bool) w' => b = isName (bl s) ∧ Fr noB w w') (fun k hk => ?_) (fun b w' h => done_b h)
  unfold isName at hk
  refine callB_ok (named_ok s hs pred_small) fun w1 F1 => ite_ok (fun h => callB_ok (Word_ok s) fun w2 F2 => hk _ _ ⟨by rw [h, Bool.true_and], F1.tr F2⟩) fun h => hk _ _ ⟨by rw [h]; rfl, F1⟩
theorem Upper_ok (s : ByteArray) (hs : s.size < 4611686018427387904) : AnsB 16 #[.string s] w (isUpper (bl s)) := by
  apply c16
  unfold t16
  exact callB_ok (named_ok s hs pred_great) fun w1 F1 => ⟨rfl, F1⟩

/-! ### The document's -/
theorem rrest_ok (s : ByteArray) (hs : s.size < 4611686018427387904) : Calls Tryz.prog 29 #[.string s] w fun e w' => e = .returned (.int .i64 (((bl s).takeWhile rest).length : Nat)) ∧ Fr noB w w' := by
  apply c29
  unfold t29
  have hsl := bl_length s
  refine join1_ok (c := .int .i64) (fun (n : Int) w' => n = ((((bl s).takeWhile rest).length : Nat) : Int) ∧ Fr noB w w') (fun kend hkend => ?_) (fun n w' h => ⟨by rw [h.1], h.2⟩)
  refine count_ok s.size hs (fun k w' => (∀ i x, i < k → (bl s)[i]? = some x → rest x = true) ∧ Fr noB w w') (fun rec k w2 hk hI hrec => ?_) ⟨fun i x h => by omega, Fr.refl _ _⟩
  obtain ⟨hall, F2⟩ := hI
  refine join1_ok (c := .bool) (fun (b : Bool) w' => Fr noB w w' ∧ (b = true → ∃ x, (bl s)[k]? = some x ∧ rest x = true) ∧ (b = false → ∀ x, (bl s)[k]? = some x → rest x = false)) (fun kj hkj => ?_) ?_
  · refine ite_ok (fun hlt => ?_) fun hge => hkj _ _ ⟨F2, (fun e => by cases e), fun _ x hx => ?_⟩
    · have hlt : k < s.size := by simp only [decide_eq_true_eq] at hlt; omega
      have hx := bl_at hlt
      refine chr_ok hlt ?_
      generalize (bl s)[k]'(by rw [hsl]; exact hlt) = x at *
      have hr : rest x = (small x || great x || digit x || x == 95) := rfl
      have goal : ∀ {b : Bool} {w' : World}, b = rest x → Fr noB w2 w' → kj b _ w' := fun hb F => hkj _ _ ⟨F2.tr F, fun e => ⟨x, hx, by rw [← hb, e]⟩, fun e y hy => by rw [hx] at hy; cases hy; rw [← hb, e]⟩
      refine callB_ok (rsmall_ok x) fun w3 F3 => ite_ok (fun h => goal (by rw [hr, h]; rfl) F3) fun h => ?_
      refine chr_ok hlt ?_
      have e1 : (bl s)[k]'(by rw [hsl]; exact hlt) = x := by have := bl_at hlt; rw [hx] at this; exact (Option.some.inj this).symm
      rw [e1]
      refine callB_ok (rgreat_ok x) fun w4 F4 => ite_ok (fun h2 => goal (by rw [hr, h, h2]; rfl) (F3.tr F4)) fun h2 => ?_
      refine chr_ok hlt ?_
      rw [e1]
      refine callB_ok (rdigit_ok x) fun w5 F5 => ite_ok (fun h3 => goal (by rw [hr, h, h2, h3]; rfl) ((F3.tr F4).tr F5)) fun h3 => ?_
      refine chr_ok hlt ?_
      rw [e1, u8_lit x 95 (z := 95) rfl]
      exact goal (by rw [hr, h, h2, h3]; rfl) ((F3.tr F4).tr F5)
    · have hge : ¬ k < s.size := by simp only [decide_eq_false_iff_not] at hge; omega
      have := (List.getElem?_eq_some_iff.1 hx).1
      omega
  rintro b w3 ⟨F3, ht, hf⟩
  refine ite_ok (fun h => ?_) fun h => hkend _ _ ⟨?_, F3⟩
  · obtain ⟨x, hx, hr⟩ := ht h
    have hlt : k < s.size := by have := (List.getElem?_eq_some_iff.1 hx).1; omega
    refine hrec hlt _ ⟨fun i y hi hy => ?_, F3⟩
    rcases Nat.lt_succ_iff_lt_or_eq.1 hi with hi | rfl
    · exact hall i y hi hy
    · rw [hx] at hy
      cases hy
      exact hr
  · rw [takeWhile_at (k := k) hall (by omega) (hf h), List.length_take]
    congr 1
    omega
theorem rName_ok (s : ByteArray) (hs : s.size < 4611686018427387904) : AnsB 15 #[.string s] w (isName (bl s)) := by
  apply c15
  unfold t15
  have hsl := bl_length s
  refine join1_ok (c := .bool) (fun (b : Bool) w' => b = isName (bl s) ∧ Fr noB w w') (fun k hk => ?_) (fun b w' h => done_b h)
  rw [eq_bl, bl_empty]
  rcases bl_cases s with hb | ⟨x, l, hb⟩
  · exact ite_no (by rw [hb]; rfl) (hk _ _ ⟨by rw [hb]; rfl, Fr.refl _ _⟩)
  · have h0 : 0 < s.size := by rw [← hsl, hb]; simp
    have e0 : (bl s)[0]'(by rw [hsl]; exact h0) = x := by simp [hb]
    have hnm : isName (bl s) = ((decide (s.size ≤ 24) && small x && (bl s).all rest) && !isWord (bl s)) := by
      unfold isName named
      rw [hb]
      simp only []
      rw [← hb, hsl]
    refine ite_yes (by rw [hb]; rfl) (ite_ok (fun h => chr_ok (i := 0) h0 ?_) fun h => hk _ _ ⟨?_, Fr.refl _ _⟩)
    · have h : s.size ≤ 24 := by simp only [decide_eq_true_eq] at h; omega
      rw [decide_eq_true h, Bool.true_and] at hnm
      rw [e0]
      refine callB_ok (rsmall_ok x) fun w1 F1 => ite_ok (fun h2 => ?_) fun h2 => hk _ _ ⟨by rw [hnm, h2]; rfl, F1⟩
      refine callI_ok (rrest_ok s hs) fun w2 F2 => ite_ok (fun h3 => ?_) fun h3 => hk _ _ ⟨?_, F1.tr F2⟩
      · have h3' : ((((bl s).takeWhile rest).length : Nat) : Int) = (s.size : Int) := beq_iff_eq.1 h3
        have h3 : (bl s).all rest = true := takeWhile_length_all.1 (by omega)
        rw [h2, h3] at hnm
        exact callB_ok (rWord_ok s) fun w3 F3 => hk _ _ ⟨by rw [hnm]; rfl, (F1.tr F2).tr F3⟩
      · have h3 : (bl s).all rest = false := by
          rw [Bool.eq_false_iff]
          intro e
          have := takeWhile_length_all.2 e
          rw [hsl] at this
          rw [this] at h3
          simp at h3
        rw [hnm, h2, h3]
        rfl
    · have h : ¬ s.size ≤ 24 := by simp only [decide_eq_false_iff_not] at h; omega
      rw [hnm, decide_eq_false h]
      rfl
theorem rUpper_ok (s : ByteArray) (hs : s.size < 4611686018427387904) : AnsB 17 #[.string s] w (isUpper (bl s)) := by
  apply c17
  unfold t17
  have hsl := bl_length s
  refine join1_ok (c := .bool) (fun (b : Bool) w' => b = isUpper (bl s) ∧ Fr noB w w') (fun k hk => ?_) (fun b w' h => done_b h)
  rw [eq_bl, bl_empty]
  rcases bl_cases s with hb | ⟨x, l, hb⟩
  · exact ite_no (by rw [hb]; rfl) (hk _ _ ⟨by rw [hb]; rfl, Fr.refl _ _⟩)
  · have h0 : 0 < s.size := by rw [← hsl, hb]; simp
    have e0 : (bl s)[0]'(by rw [hsl]; exact h0) = x := by simp [hb]
    have hnm : isUpper (bl s) = (decide (s.size ≤ 24) && great x && (bl s).all rest) := by
      unfold isUpper named
      rw [hb]
      simp only []
      rw [← hb, hsl]
    refine ite_yes (by rw [hb]; rfl) (ite_ok (fun h => chr_ok (i := 0) h0 ?_) fun h => hk _ _ ⟨?_, Fr.refl _ _⟩)
    · have h : s.size ≤ 24 := by simp only [decide_eq_true_eq] at h; omega
      rw [decide_eq_true h, Bool.true_and] at hnm
      rw [e0]
      refine callB_ok (rgreat_ok x) fun w1 F1 => ite_ok (fun h2 => ?_) fun h2 => hk _ _ ⟨by rw [hnm, h2]; rfl, F1⟩
      refine callI_ok (rrest_ok s hs) fun w2 F2 => hk _ _ ⟨?_, F1.tr F2⟩
      rw [hnm, h2, Bool.true_and, Bool.eq_iff_iff, ← takeWhile_length_all, hsl, beq_iff_eq]
      omega
    · have h : ¬ s.size ≤ 24 := by simp only [decide_eq_false_iff_not] at h; omega
      rw [hnm, decide_eq_false h]
      rfl
end
end Go.Proofs.YthnfcbjfmghomaaGreatDoor
