/- The law behind: one part of its proof (joined by program out of my own texts). No condition. -/
import Derived.Test.YtngfnokbdcjoeaaGreatDoorValAG
import Derived.Lib.DecodeN
import Derived.Shelf.Unicode.DecodeSlow
section

end
section
namespace Go.Lift
theorem Fr.tr {a b c : World} (h : Fr noB a b) (k : Fr noB b c) : Fr noB a c := h.then k fun _ _ h => h
theorem u8_lit (c d : UInt8) {z : Int} (hz : z = (d.toNat : Int)) : ((c.toNat : Int) == z) = (c == d) := by
 subst hz
 rw [Bool.eq_iff_iff]
 simp only [beq_iff_eq]
 exact u8_eq
theorem iteG_self {a b : Bool} : iteG a (retG (.bool a)) (retG (.bool b)) = retG (.bool (a || b)) := by cases a <;> rfl
theorem ite_bool {a : Bool} : iteG a (retG (.bool true)) (retG (.bool false)) = retG (.bool a) := by cases a <;> rfl
def RdS (w : World) (s : Sl) (l : List ByteArray) : Prop := s.n = l.length ∧ ∀ k x, l[k]? = some x → ∃ a, s.a = some a ∧ w.cell? (a.add (k * 1)) = some (.string x)
theorem RdS.fr {w w' : World} {s : Sl} {l : List ByteArray} (h : RdS w s l) (F : Fr noB w w') : RdS w' s l :=
 ⟨h.1, fun k x hx => by
  obtain ⟨a, ha, h1⟩ := h.2 k x hx
  exact ⟨a, ha, F.cell h1 (fun h => h)⟩⟩
theorem RdS.at {w0 : World} {s : Sl} {l : List ByteArray} (h : RdS w0 s l) {k : Nat} (hk : k < l.length) : ∃ x a, l[k]? = some x ∧ s.a = some a ∧
  (∀ w', Fr noB w0 w' → w'.cell? (a.add (k * 1)) = some (.string x)) ∧
  ∀ {K : Addr → G} {w' : World} {R : Ending → World → Prop}, K (a.add (k * 1)) R w' → idxG (some a) s.n (k : Int) 1 K R w' := by
 obtain ⟨x, hx⟩ : ∃ x, l[k]? = some x := ⟨_, List.getElem?_eq_getElem hk⟩
 obtain ⟨a, hla, hc0⟩ := h.2 k x hx
 have hn := h.1
 exact ⟨x, a, hx, hla, fun w' F => F.cell hc0 (fun h => h), fun hK => idx_ok (by omega) (by omega) (by rw [Int.toNat_natCast]; exact hK)⟩
theorem RdS.of_blk {w : World} {b : Nat} {t : TypeId} {l : List ByteArray} (B : Blk w b t (l.map Value.string)) (c : Nat) : RdS w ⟨some ⟨b, 0, none⟩, l.length, c⟩ l :=
 ⟨rfl, fun k x hx => ⟨_, rfl, by
  rw [Addr.add_lit]
  exact B.cell (by rw [Nat.zero_add, Nat.mul_one, List.getElem?_map, hx]; rfl)⟩⟩
theorem chr_ok {R : Ending → World → Prop} {w : World} {s : ByteArray} {i : Nat} {k : Int → G} (hi : i < s.size) (h : k ((((bl s)[i]'(by rw [bl_length]; exact hi)).toNat : Nat) : Int) R w) : chrG s (i : Int) k R w := by
 refine ⟨by omega, by omega, ?_⟩
 rw [byteAt_bl]
 have e : (bl s).getD i 0 = (bl s)[i]'(by rw [bl_length]; exact hi) := by
  rw [List.getD_eq_getElem?_getD, List.getElem?_eq_getElem (by rw [bl_length]; exact hi)]
  rfl
 rw [e]
 exact h
end Go.Lift
namespace Go.Proofs.YtngfnokbdcjoeaaGreatDoor
open Go.Lift Go.Lex
section
variable {w : World}
abbrev AnsB (f : FuncId) (args : Array Value) (w : World) (b : Bool) : Prop := Calls Tryz.prog f args w fun e w' => e = .returned (.bool b) ∧ Fr noB w w'
theorem done_b {b c : Bool} {w' : World} (h : b = c ∧ Fr noB w w') : (Ending.returned (Value.bool b) = .returned (.bool c)) ∧ Fr noB w w' := ⟨by rw [h.1], h.2⟩
theorem range_ok {lo hi : Int} (c : UInt8) {p : Bool} (hp : p = decide (lo ≤ (c.toNat : Int) ∧ (c.toNat : Int) ≤ hi)) :
  joinG [(VT.one CT.bool)] (fun k1 => iteG (Decidable.decide ((c.toNat : Int) ≥ lo)) (k1 (Decidable.decide ((c.toNat : Int) ≤ hi))) (k1 false)) (fun (b2 : Bool) => retG (Value.bool b2)) (fun e w' => e = .returned (.bool p) ∧ Fr noB w w') w := by
 subst hp
 refine ite_ok (fun h => ⟨?_, Fr.refl _ _⟩) fun h => ⟨?_, Fr.refl _ _⟩
 ·simp only [decide_eq_true_eq] at h
  simp [h]
 ·simp only [decide_eq_false_iff_not] at h
  have : ¬ lo ≤ (c.toNat : Int) := h
  simp [this]
theorem small_dec (c : UInt8) : small c = decide ((97 : Int) ≤ (c.toNat : Int) ∧ (c.toNat : Int) ≤ 122) := by unfold small; rw [Bool.eq_iff_iff]; simp only [decide_eq_true_eq]; omega
theorem great_dec (c : UInt8) : great c = decide ((65 : Int) ≤ (c.toNat : Int) ∧ (c.toNat : Int) ≤ 90) := by unfold great; rw [Bool.eq_iff_iff]; simp only [decide_eq_true_eq]; omega
theorem digit_dec (c : UInt8) : digit c = decide ((48 : Int) ≤ (c.toNat : Int) ∧ (c.toNat : Int) ≤ 57) := by unfold digit; rw [Bool.eq_iff_iff]; simp only [decide_eq_true_eq]; omega
theorem small_ok (c : UInt8) : AnsB 101 #[.int .u8 (c.toNat : Int)] w (small c) := c101 _ (range_ok c (small_dec c))
theorem great_ok (c : UInt8) : AnsB 103 #[.int .u8 (c.toNat : Int)] w (great c) := c103 _ (range_ok c (great_dec c))
theorem digit_ok (c : UInt8) : AnsB 168 #[.int .u8 (c.toNat : Int)] w (digit c) := c168 _ (range_ok c (digit_dec c))
theorem rsmall_ok (c : UInt8) : AnsB 105 #[.int .u8 (c.toNat : Int)] w (small c) := c105 _ (range_ok c (small_dec c))
theorem rgreat_ok (c : UInt8) : AnsB 108 #[.int .u8 (c.toNat : Int)] w (great c) := c108 _ (range_ok c (great_dec c))
theorem rdigit_ok (c : UInt8) : AnsB 137 #[.int .u8 (c.toNat : Int)] w (digit c) := c137 _ (range_ok c (digit_dec c))
theorem rest_ok (c : UInt8) : AnsB 136 #[.int .u8 (c.toNat : Int)] w (rest c) := by
 apply c136
 unfold t136 caBZ jnBZ
 refine join1_ok (c := .bool) (fun (b : Bool) w' => b = rest c ∧ Fr noB w w') (fun k hk => ?_) (fun b w' h => done_b h)
 unfold rest at hk
 refine callB_ok (small_ok c) fun w1 F1 => ite_ok (fun h => hk _ _ ⟨by simp [h], F1⟩) fun h => ?_
 refine callB_ok (great_ok c) fun w2 F2 => ite_ok (fun h2 => hk _ _ ⟨by simp [h2], F1.tr F2⟩) fun h2 => ?_
 refine callB_ok (digit_ok c) fun w3 F3 => ite_ok (fun h3 => hk _ _ ⟨by simp [h3], (F1.tr F2).tr F3⟩) fun h3 => hk _ _ ⟨?_, (F1.tr F2).tr F3⟩
 rw [u8_lit c 95 (z := 95) rfl, h, h2, h3]
 rfl
theorem among_ok (s : ByteArray) (l0 : Sl) (l : List B) (hl : RdS w l0 (l.map bs)) (hn : l.length ≤ 1000) : AnsB 138 #[.string s, .slice l0.a l0.n l0.c] w (l.contains (bl s)) := by
 apply c138
 unfold t138 wrZ ldSZ jn0Z lpIZ ixZ
 have hll : l0.n = l.length := by rw [hl.1, List.length_map]
 refine join0_ok (fun w' => l.contains (bl s) = false ∧ Fr noB w w') (fun kend hkend => ?_) (fun w' h => ⟨by rw [h.1], h.2⟩)
 refine count_ok l.length (by omega) (fun k w' => (∀ i, i < k → l[i]? ≠ some (bl s)) ∧ Fr noB w w') (fun rec k w1 hk hI hrec => ?_) ⟨fun i h => by omega, Fr.refl _ _⟩
 obtain ⟨hno, F1⟩ := hI
 refine ite_ok (fun hlt => ?_) fun hge => hkend _ ⟨?_, F1⟩
 ·have hlt : k < l.length := by simp only [decide_eq_true_eq] at hlt; omega
  obtain ⟨x, a, hx, hla, rd, hix⟩ := hl.at (k := k) (by simpa using hlt)
  rw [hla]
  have hxl : l[k]? = some (bl x) := by
   rw [List.getElem?_map] at hx
   obtain ⟨y, hy, rfl⟩ := Option.map_eq_some_iff.1 hx
   rw [hy, bl_bs]
  refine join_in (hix (ld_ok (c := .str) (x := x) (rd _ F1) ?_))
  rw [eq_bl]
  refine ite_ok (fun h => ⟨?_, F1⟩) fun h => hrec hlt _ ⟨fun i hi => ?_, F1⟩
  ·have h : bl s = bl x := by simpa using h
   rw [h, List.contains_iff_mem.2 (List.mem_of_getElem? hxl)]
  ·rcases Nat.lt_succ_iff_lt_or_eq.1 hi with hi | rfl
   ·exact hno i hi
   ·rw [hxl]
    intro e
    have h : ¬ bl s = bl x := by simpa using h
    exact h (Option.some.inj e).symm
 ·have hge : k = l.length := by simp only [decide_eq_false_iff_not] at hge; omega
  subst hge
  rw [Bool.eq_false_iff]
  intro hc
  obtain ⟨i, hi⟩ := List.mem_iff_getElem?.1 (List.contains_iff_mem.1 hc)
  exact hno i (List.getElem?_eq_some_iff.1 hi).1 hi
theorem rWord_ok (s : ByteArray) : AnsB 107 #[.string s] w (isWord (bl s)) := by
 apply c107
 unfold t107 tvZ caBZ
 refine new_ok fun w1 m hm hs B F1 => ?_
 have B1 : Blk w1 m 9 ((words.map bs).map Value.string) := B
 refine callB_ok (among_ok s ⟨some ⟨m, 0, none⟩, 20, 20⟩ words (RdS.of_blk B1 20) (by decide)) fun w2 F2 => ⟨rfl, F1.tr F2⟩
theorem Word_ok (s : ByteArray) : AnsB 102 #[.string s] w (isWord (bl s)) := by
 apply c102
 unfold t102 jn0Z jnBZ joinG
 simp only [eq_bl, ite_bool, iteG_self]
 refine ⟨?_, Fr.refl _ _⟩
 congr 2
 simp only [isWord, words, List.contains_cons, List.contains_nil, Bool.or_false]
 rfl
end
end Go.Proofs.YtngfnokbdcjoeaaGreatDoor
end
section
namespace Go.Lift
theorem takeWhile_at {α : Type} {p : α → Bool} : ∀ {l : List α} {k : Nat}, (∀ i x, i < k → l[i]? = some x → p x = true) → k ≤ l.length → (∀ x, l[k]? = some x → p x = false) → l.takeWhile p = l.take k
 | [], k, _, _, _ => by simp
 | y :: l, 0, _, _, h2 => by simp [List.takeWhile, h2 y rfl]
 | y :: l, k + 1, h1, hk, h2 => by
  have hy := h1 0 y (by omega) rfl
  rw [List.takeWhile_cons, hy, List.take_succ_cons]
  simp only [if_true]
  rw [takeWhile_at (k := k) (fun i x hi hx => h1 (i + 1) x (by omega) (by simpa using hx)) (by simpa using hk) (fun x hx => h2 x (by simpa using hx))]
theorem takeWhile_length_all {α : Type} {p : α → Bool} : ∀ {l : List α}, ((l.takeWhile p).length = l.length) ↔ l.all p = true
 | [] => by simp
 | y :: l => by
  have ih := takeWhile_length_all (p := p) (l := l)
  rw [List.takeWhile_cons]
  cases hy : p y
  ·simp [hy]
  ·simp [hy]
   simpa using ih
theorem bl_cases (s : ByteArray) : bl s = [] ∨ ∃ x l, bl s = x :: l := by
 cases h : bl s with
 | nil => exact .inl rfl
 | cons x l => exact .inr ⟨x, l, rfl⟩
theorem bl_empty : bl (ByteArray.mk #[]) = [] := rfl
theorem bl_at {s : ByteArray} {i : Nat} (hi : i < s.size) : (bl s)[i]? = some ((bl s)[i]'(by rw [bl_length]; exact hi)) := List.getElem?_eq_getElem _
end Go.Lift
namespace Go.Proofs.YtngfnokbdcjoeaaGreatDoor
open Go.Lift Go.Lex
section
variable {w : World}
def PredV (fv : Value) (p : UInt8 → Bool) : Prop := ∃ f, fv = .func (.func f) #[] #[] ∧ (resOf Tryz.prog f).isSome = true ∧ ∀ (c : UInt8) (w : World), AnsB f #[.int .u8 (c.toNat : Int)] w (p c)
theorem callP_ok {R : Ending → World → Prop} {fv : Value} {p : UInt8 → Bool} (hp : PredV fv p) (c : UInt8) {k : Bool → G} (h : ∀ w', Fr noB w w' → k (p c) R w') : callVG Tryz.prog fv #[.int .u8 (c.toNat : Int)] [.one .bool] k R w := by
 obtain ⟨f, rfl, hr, hf⟩ := hp
 refine ⟨f, #[], #[], rfl, hr, ?_⟩
 have e : (#[] ++ #[Value.int .u8 (c.toNat : Int)] ++ #[] : Array Value) = #[.int .u8 (c.toNat : Int)] := by simp
 rw [e]
 exact (hf c w).mono fun _ w' ⟨he, F⟩ => .inl ⟨((p c, ()), ()), he, h w' F⟩
theorem pred_small : PredV (.func (.func 101) #[] #[]) small := ⟨_, rfl, by kernel_rfl, fun c _ => small_ok c⟩
theorem pred_great : PredV (.func (.func 103) #[] #[]) great := ⟨_, rfl, by kernel_rfl, fun c _ => great_ok c⟩
theorem named_ok (s : ByteArray) (hs : s.size < 4611686018427387904) {fv : Value} {p : UInt8 → Bool} (hp : PredV fv p) : AnsB 100 #[.string s, fv] w (named p (bl s)) := by
 apply c100
 unfold t100 wrZ caBZ jn0Z jnBZ lpIZ
 have hsl := bl_length s
 refine join1_ok (c := .bool) (fun (b : Bool) w' => Fr noB w w' ∧ (b = true → named p (bl s) = false) ∧ (b = false → named p (bl s) = (bl s).all rest)) (fun k hk => ?_) ?_
 ·rw [eq_bl, bl_empty]
  refine ite_ok (fun h => hk _ _ ⟨Fr.refl _ _, fun _ => ?_, fun e => by cases e⟩) fun h => ite_ok (fun h2 => hk _ _ ⟨Fr.refl _ _, fun _ => ?_, fun e => by cases e⟩) fun h2 => ?_
  ·have h : bl s = [] := by simpa using h
   rw [h]
   rfl
  ·have h2 : 24 < s.size := by simp only [decide_eq_true_eq] at h2; omega
   unfold named
   cases hb : bl s with
   | nil => rfl
   | cons x l =>
    rw [hb] at hsl
    simp only []
    rw [decide_eq_false (by omega)]
    rfl
  ·have h : ¬ bl s = [] := by simpa using h
   have h2 : ¬ 24 < s.size := by simp only [decide_eq_false_iff_not] at h2; omega
   obtain ⟨x, l, hb⟩ : ∃ x l, bl s = x :: l := by
    cases hb : bl s with
    | nil => exact absurd hb h
    | cons x l => exact ⟨x, l, rfl⟩
   have h0 : 0 < s.size := by rw [← hsl, hb]; simp
   refine chr_ok (i := 0) h0 ?_
   have e0 : (bl s)[0]'(by rw [hsl]; exact h0) = x := by simp [hb]
   rw [e0]
   have hnm : named p (bl s) = (p x && (bl s).all rest) := by
    unfold named
    rw [hb]
    simp only []
    rw [decide_eq_true (by rw [← hb, hsl]; omega), Bool.true_and]
   refine callP_ok hp x fun w1 F1 => hk _ _ ⟨F1, fun e => ?_, fun e => ?_⟩
   ·have e : p x = false := by simpa using e
    rw [hnm, e]
    rfl
   ·have e : p x = true := by simpa using e
    rw [hnm, e]
    rfl
 rintro b w1 ⟨F1, ht, hf⟩
 refine ite_ok (fun h => ⟨by rw [ht h], F1⟩) fun h => ?_
 rw [hf h]
 refine join0_ok (fun w' => (bl s).all rest = true ∧ Fr noB w w') (fun kend hkend => ?_) (fun w' h => ⟨by rw [h.1], h.2⟩)
 refine count_ok s.size hs (fun k w' => (∀ i x, i < k → (bl s)[i]? = some x → rest x = true) ∧ Fr noB w w') (fun rec k w2 hk hI hrec => ?_) ⟨fun i x h => by omega, F1⟩
 obtain ⟨hall, F2⟩ := hI
 refine ite_ok (fun hlt => ?_) fun hge => hkend _ ⟨?_, F2⟩
 ·have hlt : k < s.size := by simp only [decide_eq_true_eq] at hlt; omega
  refine join_in (chr_ok hlt (callB_ok (rest_ok _) fun w3 F3 => ite_ok (fun h => ⟨?_, F2.tr F3⟩) fun h => hrec hlt _ ⟨fun i x hi hx => ?_, F2.tr F3⟩))
  ·have h : rest ((bl s)[k]'(by rw [hsl]; exact hlt)) = false := by simpa using h
   have : (bl s).all rest = false := by
    rw [Bool.eq_false_iff]
    intro e
    have := List.all_eq_true.1 e _ (List.getElem_mem (by rw [hsl]; exact hlt))
    rw [h] at this
    cases this
   rw [this]
  ·rcases Nat.lt_succ_iff_lt_or_eq.1 hi with hi | rfl
   ·exact hall i x hi hx
   ·rw [bl_at hlt] at hx
    cases hx
    simpa using h
 ·have hge : k = s.size := by simp only [decide_eq_false_iff_not] at hge; omega
  rw [List.all_eq_true]
  intro x hx
  obtain ⟨i, hi⟩ := List.mem_iff_getElem?.1 hx
  exact hall i x (by have := (List.getElem?_eq_some_iff.1 hi).1; omega) hi
theorem Name_ok (s : ByteArray) (hs : s.size < 4611686018427387904) : AnsB 70 #[.string s] w (isName (bl s)) := by
 apply c70
 unfold t70 tvZ caBZ jnBZ
 refine join1_ok (c := .bool) (fun (b : Bool) w' => b = isName (bl s) ∧ Fr noB w w') (fun k hk => ?_) (fun b w' h => done_b h)
 unfold isName at hk
 refine callB_ok (named_ok s hs pred_small) fun w1 F1 => ite_ok (fun h => callB_ok (Word_ok s) fun w2 F2 => hk _ _ ⟨by rw [h, Bool.true_and], F1.tr F2⟩) fun h => hk _ _ ⟨by rw [h]; rfl, F1⟩
theorem Upper_ok (s : ByteArray) (hs : s.size < 4611686018427387904) : AnsB 71 #[.string s] w (isUpper (bl s)) := by
 apply c71
 unfold t71 tvZ caBZ
 exact callB_ok (named_ok s hs pred_great) fun w1 F1 => ⟨rfl, F1⟩
theorem rrest_ok (s : ByteArray) (hs : s.size < 4611686018427387904) : Calls Tryz.prog 106 #[.string s] w fun e w' => e = .returned (.int .i64 (((bl s).takeWhile rest).length : Nat)) ∧ Fr noB w w' := by
 apply c106
 unfold t106 wrZ ivZ caBZ jnBZ jnIZ lpIZ
 have hsl := bl_length s
 refine join1_ok (c := .int .i64) (fun (n : Int) w' => n = ((((bl s).takeWhile rest).length : Nat) : Int) ∧ Fr noB w w') (fun kend hkend => ?_) (fun n w' h => ⟨by rw [h.1], h.2⟩)
 refine count_ok s.size hs (fun k w' => (∀ i x, i < k → (bl s)[i]? = some x → rest x = true) ∧ Fr noB w w') (fun rec k w2 hk hI hrec => ?_) ⟨fun i x h => by omega, Fr.refl _ _⟩
 obtain ⟨hall, F2⟩ := hI
 refine join1_ok (c := .bool) (fun (b : Bool) w' => Fr noB w w' ∧ (b = true → ∃ x, (bl s)[k]? = some x ∧ rest x = true) ∧ (b = false → ∀ x, (bl s)[k]? = some x → rest x = false)) (fun kj hkj => ?_) ?_
 ·refine ite_ok (fun hlt => ?_) fun hge => hkj _ _ ⟨F2, (fun e => by cases e), fun _ x hx => ?_⟩
  ·have hlt : k < s.size := by simp only [decide_eq_true_eq] at hlt; omega
   have hx := bl_at hlt
   refine chr_ok hlt ?_
   generalize (bl s)[k]'(by rw [hsl]; exact hlt) = x at *
   have hr : rest x = (small x || great x || digit x || x == 95) := rfl
   have goal : ∀ {b : Bool} {w' : World}, b = rest x → Fr noB w2 w' → kj b _ w' := fun hb F => hkj _ _ ⟨F2.tr F, fun e => ⟨x, hx, by rw [← hb, e]⟩, fun e y hy => by rw [hx] at hy; cases hy; rw [← hb, e]⟩
   refine callB_ok (rsmall_ok x) fun w3 F3 => ite_ok (fun h => goal (by rw [hr, h]; rfl) F3) fun h => ?_
   refine chr_ok hlt ?_
   have e1 : (bl s)[k]'(by rw [hsl]; exact hlt) = x := by have := bl_at hlt; rw [hx] at this; exact (Option.some.inj this).symm
   rw [e1]
   refine callB_ok (rgreat_ok x) fun w4 F4 => ite_ok (fun h2 => goal (by rw [hr, h, h2]; rfl) (F3.tr F4)) fun h2 => ?_
   refine chr_ok hlt ?_
   rw [e1]
   refine callB_ok (rdigit_ok x) fun w5 F5 => ite_ok (fun h3 => goal (by rw [hr, h, h2, h3]; rfl) ((F3.tr F4).tr F5)) fun h3 => ?_
   refine chr_ok hlt ?_
   rw [e1, u8_lit x 95 (z := 95) rfl]
   exact goal (by rw [hr, h, h2, h3]; rfl) ((F3.tr F4).tr F5)
  ·have hge : ¬ k < s.size := by simp only [decide_eq_false_iff_not] at hge; omega
   have := (List.getElem?_eq_some_iff.1 hx).1
   omega
 rintro b w3 ⟨F3, ht, hf⟩
 refine ite_ok (fun h => ?_) fun h => hkend _ _ ⟨?_, F3⟩
 ·obtain ⟨x, hx, hr⟩ := ht h
  have hlt : k < s.size := by have := (List.getElem?_eq_some_iff.1 hx).1; omega
  refine hrec hlt _ ⟨fun i y hi hy => ?_, F3⟩
  rcases Nat.lt_succ_iff_lt_or_eq.1 hi with hi | rfl
  ·exact hall i y hi hy
  ·rw [hx] at hy
   cases hy
   exact hr
 ·rw [takeWhile_at (k := k) hall (by omega) (hf h), List.length_take]
  congr 1
  omega
theorem rName_ok (s : ByteArray) (hs : s.size < 4611686018427387904) : AnsB 75 #[.string s] w (isName (bl s)) := by
 apply c75
 unfold t75 tvZ caBZ caIZ jnBZ
 have hsl := bl_length s
 refine join1_ok (c := .bool) (fun (b : Bool) w' => b = isName (bl s) ∧ Fr noB w w') (fun k hk => ?_) (fun b w' h => done_b h)
 rw [eq_bl, bl_empty]
 rcases bl_cases s with hb | ⟨x, l, hb⟩
 ·exact ite_no (by rw [hb]; rfl) (hk _ _ ⟨by rw [hb]; rfl, Fr.refl _ _⟩)
 ·have h0 : 0 < s.size := by rw [← hsl, hb]; simp
  have e0 : (bl s)[0]'(by rw [hsl]; exact h0) = x := by simp [hb]
  have hnm : isName (bl s) = ((decide (s.size ≤ 24) && small x && (bl s).all rest) && !isWord (bl s)) := by
   unfold isName named
   rw [hb]
   simp only []
   rw [← hb, hsl]
  refine ite_yes (by rw [hb]; rfl) (ite_ok (fun h => chr_ok (i := 0) h0 ?_) fun h => hk _ _ ⟨?_, Fr.refl _ _⟩)
  ·have h : s.size ≤ 24 := by simp only [decide_eq_true_eq] at h; omega
   rw [decide_eq_true h, Bool.true_and] at hnm
   rw [e0]
   refine callB_ok (rsmall_ok x) fun w1 F1 => ite_ok (fun h2 => ?_) fun h2 => hk _ _ ⟨by rw [hnm, h2]; rfl, F1⟩
   refine callI_ok (rrest_ok s hs) fun w2 F2 => ite_ok (fun h3 => ?_) fun h3 => hk _ _ ⟨?_, F1.tr F2⟩
   ·have h3' : ((((bl s).takeWhile rest).length : Nat) : Int) = (s.size : Int) := beq_iff_eq.1 h3
    have h3 : (bl s).all rest = true := takeWhile_length_all.1 (by omega)
    rw [h2, h3] at hnm
    exact callB_ok (rWord_ok s) fun w3 F3 => hk _ _ ⟨by rw [hnm]; rfl, (F1.tr F2).tr F3⟩
   ·have h3 : (bl s).all rest = false := by
     rw [Bool.eq_false_iff]
     intro e
     have := takeWhile_length_all.2 e
     rw [hsl] at this
     rw [this] at h3
     simp at h3
    rw [hnm, h2, h3]
    rfl
  ·have h : ¬ s.size ≤ 24 := by simp only [decide_eq_false_iff_not] at h; omega
   rw [hnm, decide_eq_false h]
   rfl
theorem rUpper_ok (s : ByteArray) (hs : s.size < 4611686018427387904) : AnsB 76 #[.string s] w (isUpper (bl s)) := by
 apply c76
 unfold t76 tvZ caBZ caIZ jnBZ
 have hsl := bl_length s
 refine join1_ok (c := .bool) (fun (b : Bool) w' => b = isUpper (bl s) ∧ Fr noB w w') (fun k hk => ?_) (fun b w' h => done_b h)
 rw [eq_bl, bl_empty]
 rcases bl_cases s with hb | ⟨x, l, hb⟩
 ·exact ite_no (by rw [hb]; rfl) (hk _ _ ⟨by rw [hb]; rfl, Fr.refl _ _⟩)
 ·have h0 : 0 < s.size := by rw [← hsl, hb]; simp
  have e0 : (bl s)[0]'(by rw [hsl]; exact h0) = x := by simp [hb]
  have hnm : isUpper (bl s) = (decide (s.size ≤ 24) && great x && (bl s).all rest) := by
   unfold isUpper named
   rw [hb]
   simp only []
   rw [← hb, hsl]
  refine ite_yes (by rw [hb]; rfl) (ite_ok (fun h => chr_ok (i := 0) h0 ?_) fun h => hk _ _ ⟨?_, Fr.refl _ _⟩)
  ·have h : s.size ≤ 24 := by simp only [decide_eq_true_eq] at h; omega
   rw [decide_eq_true h, Bool.true_and] at hnm
   rw [e0]
   refine callB_ok (rgreat_ok x) fun w1 F1 => ite_ok (fun h2 => ?_) fun h2 => hk _ _ ⟨by rw [hnm, h2]; rfl, F1⟩
   refine callI_ok (rrest_ok s hs) fun w2 F2 => hk _ _ ⟨?_, F1.tr F2⟩
   rw [hnm, h2, Bool.true_and, Bool.eq_iff_iff, ← takeWhile_length_all, hsl, beq_iff_eq]
   omega
  ·have h : ¬ s.size ≤ 24 := by simp only [decide_eq_false_iff_not] at h; omega
   rw [hnm, decide_eq_false h]
   rfl
end
end Go.Proofs.YtngfnokbdcjoeaaGreatDoor
end
section
namespace Go.Lex
end Go.Lex
end
