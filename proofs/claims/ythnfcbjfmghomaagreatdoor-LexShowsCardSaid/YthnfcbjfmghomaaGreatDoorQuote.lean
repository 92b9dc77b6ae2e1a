/- Quoting, in plain Lean. -/
import Derived.Test.YthnfcbjfmghomaaGreatDoorLexSpec
import Derived.Lib.CountLaws
namespace Go.Lex
def kset : List UInt8 := [92, 34, 9, 10]
def isKey (c : UInt8) : Bool := kset.contains c
theorem quoteB_plain {c : UInt8} (h : isKey c = false) : quoteB c = [c] := by
  unfold isKey kset at h
  simp only [List.contains_cons, List.contains_nil, Bool.or_false, Bool.or_eq_false_iff, beq_eq_false_iff_ne] at h
  unfold quoteB
  rw [if_neg h.2.2.2, if_neg h.2.2.1, if_neg h.2.1, if_neg h.1]
theorem quoteB_key {c : UInt8} (h : isKey c = true) : (quoteB c).length = 2 := by
  unfold isKey kset at h
  simp only [List.contains_cons, List.contains_nil, Bool.or_false, Bool.or_eq_true, beq_iff_eq] at h
  rcases h with rfl | rfl | rfl | rfl <;> rfl
theorem quote_len : ∀ s : B, (s.flatMap quoteB).length = s.length + s.countP isKey
  | [] => rfl
  | c :: r => by
    have ih := quote_len r
    rw [List.flatMap_cons, List.length_append, ih, List.countP_cons, List.length_cons]
    cases h : isKey c with
    | true => rw [quoteB_key h]; simp; omega
    | false => rw [quoteB_plain h]; simp; omega
theorem quote_none : ∀ {s : B}, s.any isKey = false → s.flatMap quoteB = s
  | [], _ => rfl
  | c :: r, h => by
    simp only [List.any_cons, Bool.or_eq_false_iff] at h
    rw [List.flatMap_cons, quoteB_plain h.1, quote_none h.2]
    rfl
def sumK (s : B) (k : Nat) : Nat := ((kset.take k).map fun c => s.count c).sum
theorem sumK_all : ∀ s : B, sumK s 4 = s.countP isKey
  | [] => rfl
  | c :: r => by
    have ih := sumK_all r
    unfold sumK kset at *
    simp only [List.take_succ_cons, List.take_zero, List.map_cons, List.map_nil, List.sum_cons, List.sum_nil, List.count_cons, List.countP_cons] at *
    by_cases h1 : c = 92
    · subst h1; rw [show isKey 92 = true from rfl]; simp; omega
    by_cases h2 : c = 34
    · subst h2; rw [show isKey 34 = true from rfl]; simp; omega
    by_cases h3 : c = 9
    · subst h3; rw [show isKey 9 = true from rfl]; simp; omega
    by_cases h4 : c = 10
    · subst h4; rw [show isKey 10 = true from rfl]; simp; omega
    have h : isKey c = false := by unfold isKey kset; simp [h1, h2, h3, h4]
    rw [h]
    simp [h1, h2, h3, h4]
    omega
theorem sumK_le (s : B) (k : Nat) : sumK s k ≤ 4 * s.length := by
  have h : ∀ l : List UInt8, (l.map fun c => s.count c).sum ≤ l.length * s.length := fun l => by
    induction l with
    | nil => simp
    | cons c l ih =>
      have : s.count c ≤ s.length := List.count_le_length
      simp only [List.map_cons, List.sum_cons, List.length_cons, Nat.add_mul, Nat.one_mul]
      omega
  refine Nat.le_trans (h _) (Nat.mul_le_mul_right _ ?_)
  rw [List.length_take]
  exact Nat.min_le_right _ _
theorem anyK_all (s : B) : (kset.take 4).any (fun c => decide (s.count c ≠ 0)) = s.any isKey := by
  rw [Bool.eq_iff_iff, List.any_eq_true, List.any_eq_true]
  constructor
  · rintro ⟨c, hc, h⟩
    have h := of_decide_eq_true h
    exact ⟨c, List.count_pos_iff.1 (by omega), List.contains_iff_mem.2 hc⟩
  · rintro ⟨c, hc, h⟩
    exact ⟨c, List.contains_iff_mem.1 h, decide_eq_true (by have := List.count_pos_iff.2 hc; omega)⟩
end Go.Lex
