/- The law behind: one part of its proof (joined by program out of my own texts). No condition. -/
import Derived.Test.YtngfnokbdcjoeaaGreatDoorVatAG
import Derived.Lib.DecodeN
import Derived.Shelf.Unicode.DecodeSlow
section

end
section
namespace Go.Lift
theorem Fr.tr {a b c : World} (h : Fr noB a b) (k : Fr noB b c) : Fr noB a c := h.then k fun _ _ h => h
theorem u8_lit (c d : UInt8) {z : Int} (hz : z = (d.toNat : Int)) : ((c.toNat : Int) == z) = (c == d) := by
 subst hz
 rw [Bool.eq_iff_iff]
 simp only [beq_iff_eq]
 exact u8_eq
theorem bl_eq_nil {s : ByteArray} : bl s = [] ↔ s.size = 0 := by rw [← bl_length]; exact ⟨fun h => by rw [h]; rfl, fun h => List.eq_nil_of_length_eq_zero h⟩
theorem iteG_self {a b : Bool} : iteG a (retG (.bool a)) (retG (.bool b)) = retG (.bool (a || b)) := by cases a <;> rfl
theorem ite_bool {a : Bool} : iteG a (retG (.bool true)) (retG (.bool false)) = retG (.bool a) := by cases a <;> rfl
def RdS (w : World) (s : Sl) (l : List ByteArray) : Prop := s.n = l.length ∧ ∀ k x, l[k]? = some x → ∃ a, s.a = some a ∧ w.cell? (a.add (k * 1)) = some (.string x)
theorem RdS.fr {w w' : World} {s : Sl} {l : List ByteArray} (h : RdS w s l) (F : Fr noB w w') : RdS w' s l :=
 ⟨h.1, fun k x hx => by
  obtain ⟨a, ha, h1⟩ := h.2 k x hx
  exact ⟨a, ha, F.cell h1 (fun h => h)⟩⟩
theorem RdS.at {w0 : World} {s : Sl} {l : List ByteArray} (h : RdS w0 s l) {k : Nat} (hk : k < l.length) : ∃ x a, l[k]? = some x ∧ s.a = some a ∧
  (∀ w', Fr noB w0 w' → w'.cell? (a.add (k * 1)) = some (.string x)) ∧
  ∀ {K : Addr → G} {w' : World} {R : Ending → World → Prop}, K (a.add (k * 1)) R w' → idxG (some a) s.n (k : Int) 1 K R w' := by
 obtain ⟨x, hx⟩ : ∃ x, l[k]? = some x := ⟨_, List.getElem?_eq_getElem hk⟩
 obtain ⟨a, hla, hc0⟩ := h.2 k x hx
 have hn := h.1
 exact ⟨x, a, hx, hla, fun w' F => F.cell hc0 (fun h => h), fun hK => idx_ok (by omega) (by omega) (by rw [Int.toNat_natCast]; exact hK)⟩
theorem RdS.of_blk {w : World} {b : Nat} {t : TypeId} {l : List ByteArray} (B : Blk w b t (l.map Value.string)) (c : Nat) : RdS w ⟨some ⟨b, 0, none⟩, l.length, c⟩ l :=
 ⟨rfl, fun k x hx => ⟨_, rfl, by
  rw [Addr.add_lit]
  exact B.cell (by rw [Nat.zero_add, Nat.mul_one, List.getElem?_map, hx]; rfl)⟩⟩
theorem chr_ok {R : Ending → World → Prop} {w : World} {s : ByteArray} {i : Nat} {k : Int → G} (hi : i < s.size) (h : k ((((bl s)[i]'(by rw [bl_length]; exact hi)).toNat : Nat) : Int) R w) : chrG s (i : Int) k R w := by
 refine ⟨by omega, by omega, ?_⟩
 rw [byteAt_bl]
 have e : (bl s).getD i 0 = (bl s)[i]'(by rw [bl_length]; exact hi) := by
  rw [List.getD_eq_getElem?_getD, List.getElem?_eq_getElem (by rw [bl_length]; exact hi)]
  rfl
 rw [e]
 exact h
end Go.Lift
namespace Go.Proofs.YtngfnokbdcjoeaaGreatDoor
open Go.Lift Go.Lex
section
variable {w : World}
abbrev AnsB (f : FuncId) (args : Array Value) (w : World) (b : Bool) : Prop := Calls Tryz.prog f args w fun e w' => e = .returned (.bool b) ∧ Fr noB w w'
theorem done_b {b c : Bool} {w' : World} (h : b = c ∧ Fr noB w w') : (Ending.returned (Value.bool b) = .returned (.bool c)) ∧ Fr noB w w' := ⟨by rw [h.1], h.2⟩
theorem range_ok {lo hi : Int} (c : UInt8) {p : Bool} (hp : p = decide (lo ≤ (c.toNat : Int) ∧ (c.toNat : Int) ≤ hi)) :
  joinG [(VT.one CT.bool)] (fun k1 => iteG (Decidable.decide ((c.toNat : Int) ≥ lo)) (k1 (Decidable.decide ((c.toNat : Int) ≤ hi))) (k1 false)) (fun (b2 : Bool) => retG (Value.bool b2)) (fun e w' => e = .returned (.bool p) ∧ Fr noB w w') w := by
 subst hp
 refine ite_ok (fun h => ⟨?_, Fr.refl _ _⟩) fun h => ⟨?_, Fr.refl _ _⟩
 ·simp only [decide_eq_true_eq] at h
  simp [h]
 ·simp only [decide_eq_false_iff_not] at h
  have : ¬ lo ≤ (c.toNat : Int) := h
  simp [this]
theorem small_dec (c : UInt8) : small c = decide ((97 : Int) ≤ (c.toNat : Int) ∧ (c.toNat : Int) ≤ 122) := by unfold small; rw [Bool.eq_iff_iff]; simp only [decide_eq_true_eq]; omega
theorem great_dec (c : UInt8) : great c = decide ((65 : Int) ≤ (c.toNat : Int) ∧ (c.toNat : Int) ≤ 90) := by unfold great; rw [Bool.eq_iff_iff]; simp only [decide_eq_true_eq]; omega
theorem digit_dec (c : UInt8) : digit c = decide ((48 : Int) ≤ (c.toNat : Int) ∧ (c.toNat : Int) ≤ 57) := by unfold digit; rw [Bool.eq_iff_iff]; simp only [decide_eq_true_eq]; omega
theorem small_ok (c : UInt8) : AnsB 101 #[.int .u8 (c.toNat : Int)] w (small c) := c101 _ (range_ok c (small_dec c))
theorem great_ok (c : UInt8) : AnsB 103 #[.int .u8 (c.toNat : Int)] w (great c) := c103 _ (range_ok c (great_dec c))
theorem digit_ok (c : UInt8) : AnsB 168 #[.int .u8 (c.toNat : Int)] w (digit c) := c168 _ (range_ok c (digit_dec c))
theorem rest_ok (c : UInt8) : AnsB 136 #[.int .u8 (c.toNat : Int)] w (rest c) := by
 apply c136
 unfold t136 caBZ jnBZ
 refine join1_ok (c := .bool) (fun (b : Bool) w' => b = rest c ∧ Fr noB w w') (fun k hk => ?_) (fun b w' h => done_b h)
 unfold rest at hk
 refine callB_ok (small_ok c) fun w1 F1 => ite_ok (fun h => hk _ _ ⟨by simp [h], F1⟩) fun h => ?_
 refine callB_ok (great_ok c) fun w2 F2 => ite_ok (fun h2 => hk _ _ ⟨by simp [h2], F1.tr F2⟩) fun h2 => ?_
 refine callB_ok (digit_ok c) fun w3 F3 => ite_ok (fun h3 => hk _ _ ⟨by simp [h3], (F1.tr F2).tr F3⟩) fun h3 => hk _ _ ⟨?_, (F1.tr F2).tr F3⟩
 rw [u8_lit c 95 (z := 95) rfl, h, h2, h3]
 rfl
theorem lump_ok (c : UInt8) : AnsB 181 #[.int .u8 (c.toNat : Int)] w (lump c) := by
 apply c181
 unfold t181 caBZ jnBZ
 refine join1_ok (c := .bool) (fun (b : Bool) w' => b = lump c ∧ Fr noB w w') (fun k hk => ?_) (fun b w' h => done_b h)
 unfold lump at hk
 refine callB_ok (small_ok c) fun w1 F1 => ite_ok (fun h => hk _ _ ⟨by simp [h], F1⟩) fun h => ?_
 refine callB_ok (great_ok c) fun w2 F2 => ite_ok (fun h2 => hk _ _ ⟨by simp [h2], F1.tr F2⟩) fun h2 => ?_
 refine callB_ok (digit_ok c) fun w3 F3 => ite_ok (fun h3 => hk _ _ ⟨by simp [h3], (F1.tr F2).tr F3⟩) fun h3 => ?_
 rw [u8_lit c 46 (z := 46) rfl, u8_lit c 45 (z := 45) rfl]
 refine ite_ok (fun h4 => hk _ _ ⟨by simp [h4], (F1.tr F2).tr F3⟩) fun h4 => hk _ _ ⟨?_, (F1.tr F2).tr F3⟩
 rw [h, h2, h3, h4]
 rfl
theorem line_ok (c : UInt8) : AnsB 156 #[.int .u8 (c.toNat : Int)] w (c != 10) := by
 apply c156
 unfold t156
 refine ⟨?_, Fr.refl _ _⟩
 rw [bne, bne, u8_lit c 10 (z := 10) rfl]
def inText (c : UInt8) : Bool := decide (32 ≤ c.toNat) && c != 34 && c != 92
theorem inText_ok (c : UInt8) : AnsB 216 #[.int .u8 (c.toNat : Int)] w (inText c) := by
 apply c216
 unfold t216 jnBZ
 refine join1_ok (c := .bool) (fun (b : Bool) w' => b = inText c ∧ Fr noB w w') (fun k hk => ?_) (fun b w' h => done_b h)
 unfold inText at hk
 rw [bne, bne, u8_lit c 34 (z := 34) rfl, u8_lit c 92 (z := 92) rfl]
 refine ite_ok (fun h => ite_ok (fun h2 => hk _ _ ⟨?_, Fr.refl _ _⟩) fun h2 => hk _ _ ⟨?_, Fr.refl _ _⟩) fun h => hk _ _ ⟨?_, Fr.refl _ _⟩
 ·simp only [decide_eq_true_eq] at h
  rw [decide_eq_true (by omega : 32 ≤ c.toNat)]
  simp only [bne, h2, Bool.true_and]
 ·simp [bne, h2]
 ·simp only [decide_eq_false_iff_not] at h
  rw [decide_eq_false (by omega : ¬ 32 ≤ c.toNat)]
  rfl
theorem Word_ok (s : ByteArray) : AnsB 102 #[.string s] w (isWord (bl s)) := by
 apply c102
 unfold t102 jn0Z jnBZ joinG
 simp only [eq_bl, ite_bool, iteG_self]
 refine ⟨?_, Fr.refl _ _⟩
 congr 2
 simp only [isWord, words, List.contains_cons, List.contains_nil, Bool.or_false]
 rfl
end
end Go.Proofs.YtngfnokbdcjoeaaGreatDoor
end
section
namespace Go.Lift
theorem takeWhile_at {α : Type} {p : α → Bool} : ∀ {l : List α} {k : Nat}, (∀ i x, i < k → l[i]? = some x → p x = true) → k ≤ l.length → (∀ x, l[k]? = some x → p x = false) → l.takeWhile p = l.take k
 | [], k, _, _, _ => by simp
 | y :: l, 0, _, _, h2 => by simp [List.takeWhile, h2 y rfl]
 | y :: l, k + 1, h1, hk, h2 => by
  have hy := h1 0 y (by omega) rfl
  rw [List.takeWhile_cons, hy, List.take_succ_cons]
  simp only [if_true]
  rw [takeWhile_at (k := k) (fun i x hi hx => h1 (i + 1) x (by omega) (by simpa using hx)) (by simpa using hk) (fun x hx => h2 x (by simpa using hx))]
theorem bl_cases (s : ByteArray) : bl s = [] ∨ ∃ x l, bl s = x :: l := by
 cases h : bl s with
 | nil => exact .inl rfl
 | cons x l => exact .inr ⟨x, l, rfl⟩
theorem bl_empty : bl (ByteArray.mk #[]) = [] := rfl
theorem bl_at {s : ByteArray} {i : Nat} (hi : i < s.size) : (bl s)[i]? = some ((bl s)[i]'(by rw [bl_length]; exact hi)) := List.getElem?_eq_getElem _
end Go.Lift
namespace Go.Proofs.YtngfnokbdcjoeaaGreatDoor
open Go.Lift Go.Lex
section
variable {w : World}
def PredV (fv : Value) (p : UInt8 → Bool) : Prop := ∃ f, fv = .func (.func f) #[] #[] ∧ (resOf Tryz.prog f).isSome = true ∧ ∀ (c : UInt8) (w : World), AnsB f #[.int .u8 (c.toNat : Int)] w (p c)
theorem callP_ok {R : Ending → World → Prop} {fv : Value} {p : UInt8 → Bool} (hp : PredV fv p) (c : UInt8) {k : Bool → G} (h : ∀ w', Fr noB w w' → k (p c) R w') : callVG Tryz.prog fv #[.int .u8 (c.toNat : Int)] [.one .bool] k R w := by
 obtain ⟨f, rfl, hr, hf⟩ := hp
 refine ⟨f, #[], #[], rfl, hr, ?_⟩
 have e : (#[] ++ #[Value.int .u8 (c.toNat : Int)] ++ #[] : Array Value) = #[.int .u8 (c.toNat : Int)] := by simp
 rw [e]
 exact (hf c w).mono fun _ w' ⟨he, F⟩ => .inl ⟨((p c, ()), ()), he, h w' F⟩
theorem pred_small : PredV (.func (.func 101) #[] #[]) small := ⟨_, rfl, by kernel_rfl, fun c _ => small_ok c⟩
theorem pred_great : PredV (.func (.func 103) #[] #[]) great := ⟨_, rfl, by kernel_rfl, fun c _ => great_ok c⟩
theorem pred_rest : PredV (.func (.func 136) #[] #[]) rest := ⟨_, rfl, by kernel_rfl, fun c _ => rest_ok c⟩
theorem pred_lump : PredV (.func (.func 181) #[] #[]) lump := ⟨_, rfl, by kernel_rfl, fun c _ => lump_ok c⟩
theorem pred_line : PredV (.func (.func 156) #[] #[]) (· != 10) := ⟨_, rfl, by kernel_rfl, fun c _ => line_ok c⟩
theorem pred_inText : PredV (.func (.func 216) #[] #[]) inText := ⟨_, rfl, by kernel_rfl, fun c _ => inText_ok c⟩
theorem named_ok (s : ByteArray) (hs : s.size < 4611686018427387904) {fv : Value} {p : UInt8 → Bool} (hp : PredV fv p) : AnsB 100 #[.string s, fv] w (named p (bl s)) := by
 apply c100
 unfold t100 wrZ caBZ jn0Z jnBZ lpIZ
 have hsl := bl_length s
 refine join1_ok (c := .bool) (fun (b : Bool) w' => Fr noB w w' ∧ (b = true → named p (bl s) = false) ∧ (b = false → named p (bl s) = (bl s).all rest)) (fun k hk => ?_) ?_
 ·rw [eq_bl, bl_empty]
  refine ite_ok (fun h => hk _ _ ⟨Fr.refl _ _, fun _ => ?_, fun e => by cases e⟩) fun h => ite_ok (fun h2 => hk _ _ ⟨Fr.refl _ _, fun _ => ?_, fun e => by cases e⟩) fun h2 => ?_
  ·have h : bl s = [] := by simpa using h
   rw [h]
   rfl
  ·have h2 : 24 < s.size := by simp only [decide_eq_true_eq] at h2; omega
   unfold named
   cases hb : bl s with
   | nil => rfl
   | cons x l =>
    rw [hb] at hsl
    simp only []
    rw [decide_eq_false (by omega)]
    rfl
  ·have h : ¬ bl s = [] := by simpa using h
   have h2 : ¬ 24 < s.size := by simp only [decide_eq_false_iff_not] at h2; omega
   obtain ⟨x, l, hb⟩ : ∃ x l, bl s = x :: l := by
    cases hb : bl s with
    | nil => exact absurd hb h
    | cons x l => exact ⟨x, l, rfl⟩
   have h0 : 0 < s.size := by rw [← hsl, hb]; simp
   refine chr_ok (i := 0) h0 ?_
   have e0 : (bl s)[0]'(by rw [hsl]; exact h0) = x := by simp [hb]
   rw [e0]
   have hnm : named p (bl s) = (p x && (bl s).all rest) := by
    unfold named
    rw [hb]
    simp only []
    rw [decide_eq_true (by rw [← hb, hsl]; omega), Bool.true_and]
   refine callP_ok hp x fun w1 F1 => hk _ _ ⟨F1, fun e => ?_, fun e => ?_⟩
   ·have e : p x = false := by simpa using e
    rw [hnm, e]
    rfl
   ·have e : p x = true := by simpa using e
    rw [hnm, e]
    rfl
 rintro b w1 ⟨F1, ht, hf⟩
 refine ite_ok (fun h => ⟨by rw [ht h], F1⟩) fun h => ?_
 rw [hf h]
 refine join0_ok (fun w' => (bl s).all rest = true ∧ Fr noB w w') (fun kend hkend => ?_) (fun w' h => ⟨by rw [h.1], h.2⟩)
 refine count_ok s.size hs (fun k w' => (∀ i x, i < k → (bl s)[i]? = some x → rest x = true) ∧ Fr noB w w') (fun rec k w2 hk hI hrec => ?_) ⟨fun i x h => by omega, F1⟩
 obtain ⟨hall, F2⟩ := hI
 refine ite_ok (fun hlt => ?_) fun hge => hkend _ ⟨?_, F2⟩
 ·have hlt : k < s.size := by simp only [decide_eq_true_eq] at hlt; omega
  refine join_in (chr_ok hlt (callB_ok (rest_ok _) fun w3 F3 => ite_ok (fun h => ⟨?_, F2.tr F3⟩) fun h => hrec hlt _ ⟨fun i x hi hx => ?_, F2.tr F3⟩))
  ·have h : rest ((bl s)[k]'(by rw [hsl]; exact hlt)) = false := by simpa using h
   have : (bl s).all rest = false := by
    rw [Bool.eq_false_iff]
    intro e
    have := List.all_eq_true.1 e _ (List.getElem_mem (by rw [hsl]; exact hlt))
    rw [h] at this
    cases this
   rw [this]
  ·rcases Nat.lt_succ_iff_lt_or_eq.1 hi with hi | rfl
   ·exact hall i x hi hx
   ·rw [bl_at hlt] at hx
    cases hx
    simpa using h
 ·have hge : k = s.size := by simp only [decide_eq_false_iff_not] at hge; omega
  rw [List.all_eq_true]
  intro x hx
  obtain ⟨i, hi⟩ := List.mem_iff_getElem?.1 hx
  exact hall i x (by have := (List.getElem?_eq_some_iff.1 hi).1; omega) hi
theorem Name_ok (s : ByteArray) (hs : s.size < 4611686018427387904) : AnsB 70 #[.string s] w (isName (bl s)) := by
 apply c70
 unfold t70 tvZ caBZ jnBZ
 refine join1_ok (c := .bool) (fun (b : Bool) w' => b = isName (bl s) ∧ Fr noB w w') (fun k hk => ?_) (fun b w' h => done_b h)
 unfold isName at hk
 refine callB_ok (named_ok s hs pred_small) fun w1 F1 => ite_ok (fun h => callB_ok (Word_ok s) fun w2 F2 => hk _ _ ⟨by rw [h, Bool.true_and], F1.tr F2⟩) fun h => hk _ _ ⟨by rw [h]; rfl, F1⟩
theorem Upper_ok (s : ByteArray) (hs : s.size < 4611686018427387904) : AnsB 71 #[.string s] w (isUpper (bl s)) := by
 apply c71
 unfold t71 tvZ caBZ
 exact callB_ok (named_ok s hs pred_great) fun w1 F1 => ⟨rfl, F1⟩
end
end Go.Proofs.YtngfnokbdcjoeaaGreatDoor
end
section
namespace Go.Lex
theorem utfLen_le : ∀ s : B, utfLen s ≤ s.length
 | [] => by simp [utfLen]
 | [a] => by
  simp only [utfLen, List.length_cons, List.length_nil]
  repeat' split
  all_goals omega
 | [a, b] => by
  simp only [utfLen, List.length_cons, List.length_nil]
  repeat' split
  all_goals omega
 | [a, b, c] => by
  simp only [utfLen, List.length_cons, List.length_nil]
  repeat' split
  all_goals omega
 | a :: b :: c :: d :: r => by
  simp only [utfLen, List.length_cons]
  repeat' split
  all_goals omega
theorem utfBadF_fuel : ∀ (f g : Nat) (s : B), s.length ≤ f → s.length ≤ g → utfBadF f s = utfBadF g s
 | 0, 0, _, _, _ => rfl
 | 0, g + 1, [], _, _ => by simp [utfBadF]
 | f + 1, 0, [], _, _ => by simp [utfBadF]
 | f + 1, g + 1, [], _, _ => by simp [utfBadF]
 | 0, _, a :: r, h, _ => by simp at h
 | _, 0, a :: r, _, h => by simp at h
 | f + 1, g + 1, a :: r, hf, hg => by
  have hl := utfLen_le (a :: r)
  simp only [List.length_cons] at hf hg
  unfold utfBadF
  cases h : utfLen (a :: r) with
  | zero => simp only []
  | succ n =>
   simp only []
   rw [utfBadF_fuel f g _ (by rw [List.length_drop, List.length_cons]; omega) (by rw [List.length_drop, List.length_cons]; omega)]
theorem utfBad_nil : utfBad [] = none := rfl
theorem utfBad_bad {s : B} (hs : s ≠ []) (h : utfLen s = 0) : utfBad s = some 0 := by
 cases s with
 | nil => exact absurd rfl hs
 | cons a r =>
  unfold utfBad
  rw [List.length_cons]
  unfold utfBadF
  rw [h]
theorem utfBad_step {s : B} {n : Nat} (hn : 0 < n) (h : utfLen s = n) : utfBad s = (utfBad (s.drop n)).map (· + n) := by
 cases s with
 | nil => simp [utfLen] at h; omega
 | cons a r =>
  have hl := utfLen_le (a :: r)
  obtain ⟨m, rfl⟩ : ∃ m, n = m + 1 := ⟨n - 1, by omega⟩
  unfold utfBad
  rw [List.length_cons]
  have e : utfBadF (r.length + 1) (a :: r) = (utfBadF r.length ((a :: r).drop (m + 1))).map (· + (m + 1)) := by
   conv => lhs; unfold utfBadF
   rw [h]
  rw [e]
  rw [utfBadF_fuel r.length ((a :: r).drop (m + 1)).length _ (by rw [List.length_drop, List.length_cons]; omega) (Nat.le_refl _)]
def at0 (s : B) (i : Nat) : Nat := (s.getD i 0).toNat
def utfN (n b0 b1 b2 b3 : Nat) : Nat :=
 if b0 < 128 then 1
 else if b0 < 194 then 0
 else if b0 < 224 then if 1 < n ∧ 128 ≤ b1 ∧ b1 ≤ 191 then 2 else 0
 else if b0 < 240 then if 2 < n ∧ ((if b0 = 224 then 160 else 128) ≤ b1 ∧ b1 ≤ (if b0 = 237 then 159 else 191)) ∧ 128 ≤ b2 ∧ b2 ≤ 191 then 3 else 0
 else if b0 < 245 then if 3 < n ∧ ((if b0 = 240 then 144 else 128) ≤ b1 ∧ b1 ≤ (if b0 = 244 then 143 else 191)) ∧ (128 ≤ b2 ∧ b2 ≤ 191) ∧ 128 ≤ b3 ∧ b3 ≤ 191 then 4 else 0
 else 0
theorem utfLen_N {s : B} (hs : s ≠ []) : utfLen s = utfN s.length (at0 s 0) (at0 s 1) (at0 s 2) (at0 s 3) := by
 match s, hs with
 | [a], _ =>
  simp only [utfLen, utfN, at0, List.length_cons, List.length_nil, List.getD_cons_zero]
  repeat' split
  all_goals first | rfl | omega
 | [a, b], _ =>
  simp only [utfLen, utfN, at0, List.length_cons, List.length_nil, List.getD_cons_zero, List.getD_cons_succ, cont, decide_eq_true_eq]
  repeat' split
  all_goals first | rfl | omega
 | [a, b, c], _ =>
  simp only [utfLen, utfN, at0, List.length_cons, List.length_nil, List.getD_cons_zero, List.getD_cons_succ, cont, between, decide_eq_true_eq, Bool.and_eq_true]
  repeat' split
  all_goals first | rfl | omega
 | a :: b :: c :: d :: r, _ =>
  simp only [utfLen, utfN, at0, List.length_cons, List.getD_cons_zero, List.getD_cons_succ, cont, between, decide_eq_true_eq, Bool.and_eq_true]
  repeat' split
  all_goals first | rfl | omega
set_option maxHeartbeats 8000000 in
open Go.Lib in
theorem decodeN_utf (n b0 b1 b2 b3 : Nat) (h0 : b0 < 256) (h1 : b1 < 256) (h2 : b2 < 256) (h3 : b3 < 256) (_ : 0 < n) :
  (utfN n b0 b1 b2 b3 = 0 → decodeN n b0 b1 b2 b3 = (65533, 1)) ∧ (0 < utfN n b0 b1 b2 b3 → (decodeN n b0 b1 b2 b3).2 = utfN n b0 b1 b2 b3 ∧ ¬ ((decodeN n b0 b1 b2 b3).1 = 65533 ∧ (decodeN n b0 b1 b2 b3).2 = 1) ∧ (decodeN n b0 b1 b2 b3).1 < 1114112) := by
 unfold decodeN utfN
 constructor
 ·intro h
  repeat' split at h
  all_goals first | omega | skip
  all_goals repeat' split
  all_goals first | rfl | omega
 ·intro h
  repeat' split at h
  all_goals first | omega | skip
  all_goals repeat' split
  all_goals first | omega | skip
  all_goals (refine ⟨?_, ?_, ?_⟩ <;> simp only <;> omega)
end Go.Lex
end
