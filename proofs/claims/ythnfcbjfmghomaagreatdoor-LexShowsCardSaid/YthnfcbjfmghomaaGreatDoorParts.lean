/- A text cut at a byte, in plain Lean. -/
import Derived.Test.YthnfcbjfmghomaaGreatDoorLexSpec
import Derived.Lib.Split
import Derived.Lib.Atoi
namespace Go.Lex
open Go.Lib
theorem index_tw (c : UInt8) : ∀ s : B, (indexByte s c = -1 ∧ s.takeWhile (· != c) = s) ∨ ∃ i : Nat, indexByte s c = i ∧ i < s.length ∧ s.takeWhile (· != c) = s.take i ∧ s.drop i = c :: s.drop (i + 1)
  | [] => .inl ⟨rfl, rfl⟩
  | b :: l => by
    by_cases h : b = c
    · subst h
      exact .inr ⟨0, by simp [indexByte], by simp, by simp, rfl⟩
    · have hb : (b != c) = true := by simpa using h
      rcases index_tw c l with ⟨h1, h2⟩ | ⟨i, h1, h2, h3, h4⟩
      · refine .inl ⟨by simp [indexByte, h, h1], ?_⟩
        rw [List.takeWhile_cons, hb, if_pos rfl, h2]
      · refine .inr ⟨i + 1, ?_, by simpa using h2, ?_, ?_⟩
        · have e : ((i : Int) == -1) = false := by rw [beq_eq_false_iff_ne]; omega
          have hbc : (b == c) = false := by simpa using h
          simp only [indexByte, hbc, h1, e, Bool.false_eq_true, if_false]
          omega
        · rw [List.takeWhile_cons, hb, if_pos rfl, h3, List.take_succ_cons]
        · simpa using h4
theorem cut_tw (s : B) (c : UInt8) : cut s [c] = (s.takeWhile (· != c), (s.drop (s.takeWhile (· != c)).length).tail, !(s.drop (s.takeWhile (· != c)).length).isEmpty) := by
  unfold cut
  rw [index_one]
  rcases index_tw c s with ⟨h1, h2⟩ | ⟨i, h1, h2, h3, h4⟩
  · rw [h1, if_neg (by decide), h2, List.drop_length]
    rfl
  · rw [h1, if_pos (by omega), h3, List.length_take, Nat.min_eq_left (by omega), h4, Int.toNat_natCast]
    rfl
theorem parts_ne : ∀ s : B, parts s ≠ []
  | [] => by simp [parts]
  | c :: r => by
    unfold parts
    split
    · simp
    · split <;> simp
theorem parts_cut : ∀ s : B, (indexByte s 46 = -1 → parts s = [s]) ∧ ∀ i : Nat, indexByte s 46 = i → parts s = s.take i :: parts (s.drop (i + 1))
  | [] => ⟨fun _ => rfl, fun i h => by simp [indexByte] at h⟩
  | b :: l => by
    obtain ⟨ih1, ih2⟩ := parts_cut l
    by_cases h : b = 46
    · subst h
      refine ⟨fun e => by simp [indexByte] at e, fun i e => ?_⟩
      have : i = 0 := by simp [indexByte] at e; omega
      subst this
      simp [parts]
    · have hb : (b == 46) = false := by simpa using h
      have hge := indexByte_ge l 46
      constructor
      · intro e
        have e1 : indexByte l 46 = -1 := by
          simp only [indexByte, hb, Bool.false_eq_true, if_false] at e
          split at e
          · rename_i h2; exact beq_iff_eq.1 h2
          · rename_i h2
            have h2 : ¬ indexByte l 46 = -1 := by simpa using h2
            omega
        unfold parts
        rw [if_neg h, ih1 e1]
      · intro i e
        simp only [indexByte, hb, Bool.false_eq_true, if_false] at e
        split at e
        · omega
        · rename_i h2
          have h2 : ¬ indexByte l 46 = -1 := by simpa using h2
          obtain ⟨k, rfl⟩ : ∃ k, i = k + 1 := ⟨i - 1, by omega⟩
          conv => lhs; unfold parts
          rw [if_neg h, ih2 k (by omega)]
          simp
theorem split_parts : ∀ (n : Nat) (s : B), s.length ≤ n → splitK [46] 0 (count s [46]) s = parts s ∧ count s [46] + 1 = (parts s).length
  | n, s, hn => by
    have hge := index_one s 46
    rcases index_tw 46 s with ⟨h1, _⟩ | ⟨i, h1, h2, _, _⟩
    · rw [count_miss (by rw [hge, h1]), (parts_cut s).1 h1]
      exact ⟨rfl, rfl⟩
    · cases n with
      | zero => omega
      | succ n =>
        obtain ⟨ih1, ih2⟩ := split_parts n (s.drop (i + 1)) (by rw [List.length_drop]; omega)
        rw [count_hit (i := i) (by simp) (by rw [hge, h1]), (parts_cut s).2 i h1, Nat.add_comm 1]
        refine ⟨?_, congrArg (· + 1) ih2⟩
        have e : (index s [46] == -1) = false := by rw [hge, h1, beq_eq_false_iff_ne]; omega
        unfold splitK
        rw [e, hge, h1]
        simp only [Bool.false_eq_true, if_false, Int.toNat_natCast, Nat.add_zero]
        rw [← ih1]
        rfl
theorem parts_len : ∀ s : B, (parts s).length ≤ s.length + 1
  | [] => Nat.le_refl _
  | c :: r => by
    have := parts_len r
    unfold parts
    split
    · simp only [List.length_cons]; omega
    · split
      · rename_i h; rw [h] at this; simp only [List.length_cons] at *; omega
      · simp
theorem parts_each : ∀ {s : B} (x : B), x ∈ parts s → x.length ≤ s.length
  | [], x, h => by simp [parts] at h; simp [h]
  | c :: r, x, h => by
    have ih := fun y => parts_each (s := r) y
    unfold parts at h
    split at h
    · rcases List.mem_cons.1 h with rfl | h
      · simp
      · have := ih x h; simp only [List.length_cons]; omega
    · split at h
      · rename_i p ps hp
        rcases List.mem_cons.1 h with rfl | h
        · have := ih p (by rw [hp]; simp); simp only [List.length_cons]; omega
        · have := ih x (by rw [hp]; simp [h]); simp only [List.length_cons]; omega
      · simp only [List.mem_singleton] at h; subst h; simp
/-! ### Numbers -/
theorem decFrom_digits : ∀ (l : B) (acc : Nat), l.all digit = true → ∃ v, decFrom acc l = some v ∧ v + 1 ≤ (acc + 1) * 10 ^ l.length
  | [], acc, _ => ⟨acc, rfl, by simp⟩
  | b :: l, acc, h => by
    simp only [List.all_cons, Bool.and_eq_true] at h
    have hb := of_decide_eq_true h.1
    obtain ⟨v, h1, h2⟩ := decFrom_digits l (acc * 10 + (b.toNat - 48)) h.2
    refine ⟨v, by unfold decFrom digitVal; rw [if_pos hb]; exact h1, Nat.le_trans h2 ?_⟩
    rw [List.length_cons, Nat.pow_succ, Nat.mul_comm (10 ^ l.length) 10, ← Nat.mul_assoc]
    exact Nat.mul_le_mul_right _ (by omega)
theorem atoi_digits {l : B} (h : digits l = true) (h6 : l.length ≤ 6) : ∃ v : Nat, atoi l = some (v : Int) ∧ v ≤ 999999 := by
  unfold digits at h
  cases l with
  | nil => simp at h
  | cons b r =>
    simp only [List.isEmpty_cons, Bool.not_false, Bool.true_and] at h
    obtain ⟨v, h1, h2⟩ := decFrom_digits (b :: r) 0 h
    have hb : digit b = true := by simp only [List.all_cons, Bool.and_eq_true] at h; exact h.1
    have hd := of_decide_eq_true hb
    have n45 : (b == 45) = false := by rw [beq_eq_false_iff_ne]; rintro rfl; revert hd; decide
    have n43 : (b == 43) = false := by rw [beq_eq_false_iff_ne]; rintro rfl; revert hd; decide
    refine ⟨v, ?_, ?_⟩
    · unfold atoi
      simp only [n45, n43, Bool.false_eq_true, if_false, decNat, List.isEmpty_cons]
      rw [h1]
      rfl
    · have : 10 ^ (b :: r).length ≤ 10 ^ 6 := Nat.pow_le_pow_right (by omega) h6
      omega
def preAll (p : B) : Bool := p.isEmpty || (decide (p.length ≤ 24) && (parts p).all preOk)
theorem verOk_eq (s : B) : verOk s = (decide ((parts (s.takeWhile (· != 45))).length = 3) && (parts (s.takeWhile (· != 45))).all numOk && ((s.drop (s.takeWhile (· != 45)).length).isEmpty || !(s.drop (s.takeWhile (· != 45)).length).tail.isEmpty) && preAll (s.drop (s.takeWhile (· != 45)).length).tail) := by
  unfold verOk preAll
  simp only []
  generalize s.takeWhile (· != 45) = core
  cases s.drop core.length with
  | nil => simp
  | cons d pre => cases pre <;> simp [Bool.and_assoc]
end Go.Lex
