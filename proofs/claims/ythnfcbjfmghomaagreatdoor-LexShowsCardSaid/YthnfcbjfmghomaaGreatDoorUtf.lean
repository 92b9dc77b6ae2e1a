/- Code points, said in plain Lean. -/
import Derived.Test.YthnfcbjfmghomaaGreatDoorLexSpec
import Derived.Lib.DecodeN
import Derived.Shelf.Unicode.DecodeSlow
namespace Go.Lex
theorem utfLen_le : ∀ s : B, utfLen s ≤ s.length
  | [] => by simp [utfLen]
  | [a] => by
    simp only [utfLen, List.length_cons, List.length_nil]
    repeat' split
    all_goals omega
  | [a, b] => by
    simp only [utfLen, List.length_cons, List.length_nil]
    repeat' split
    all_goals omega
  | [a, b, c] => by
    simp only [utfLen, List.length_cons, List.length_nil]
    repeat' split
    all_goals omega
  | a :: b :: c :: d :: r => by
    simp only [utfLen, List.length_cons]
    repeat' split
    all_goals omega
theorem utfLen_le4 (s : B) : utfLen s ≤ 4 := by
  unfold utfLen
  repeat' split
  all_goals omega
theorem utfBadF_fuel : ∀ (f g : Nat) (s : B), s.length ≤ f → s.length ≤ g → utfBadF f s = utfBadF g s
  | 0, 0, _, _, _ => rfl
  | 0, g + 1, [], _, _ => by simp [utfBadF]
  | f + 1, 0, [], _, _ => by simp [utfBadF]
  | f + 1, g + 1, [], _, _ => by simp [utfBadF]
  | 0, _, a :: r, h, _ => by simp at h
  | _, 0, a :: r, _, h => by simp at h
  | f + 1, g + 1, a :: r, hf, hg => by
    have hl := utfLen_le (a :: r)
    simp only [List.length_cons] at hf hg
    unfold utfBadF
    cases h : utfLen (a :: r) with
    | zero => simp only []
    | succ n =>
      simp only []
      rw [utfBadF_fuel f g _ (by rw [List.length_drop, List.length_cons]; omega) (by rw [List.length_drop, List.length_cons]; omega)]
theorem utfBad_nil : utfBad [] = none := rfl
theorem utfBad_bad {s : B} (hs : s ≠ []) (h : utfLen s = 0) : utfBad s = some 0 := by
  cases s with
  | nil => exact absurd rfl hs
  | cons a r =>
    unfold utfBad
    rw [List.length_cons]
    unfold utfBadF
    rw [h]
theorem utfBad_step {s : B} {n : Nat} (hn : 0 < n) (h : utfLen s = n) : utfBad s = (utfBad (s.drop n)).map (· + n) := by
  cases s with
  | nil => simp [utfLen] at h; omega
  | cons a r =>
    have hl := utfLen_le (a :: r)
    obtain ⟨m, rfl⟩ : ∃ m, n = m + 1 := ⟨n - 1, by omega⟩
    unfold utfBad
    rw [List.length_cons]
    have e : utfBadF (r.length + 1) (a :: r) = (utfBadF r.length ((a :: r).drop (m + 1))).map (· + (m + 1)) := by
      conv => lhs; unfold utfBadF
      rw [h]
    rw [e]
    rw [utfBadF_fuel r.length ((a :: r).drop (m + 1)).length _ (by rw [List.length_drop, List.length_cons]; omega) (Nat.le_refl _)]

/-! ### Go's decoder -/
def at0 (s : B) (i : Nat) : Nat := (s.getD i 0).toNat
/-- the length of a first code point, of numbers -/
def utfN (n b0 b1 b2 b3 : Nat) : Nat :=
  if b0 < 128 then 1
  else if b0 < 194 then 0
  else if b0 < 224 then if 1 < n ∧ 128 ≤ b1 ∧ b1 ≤ 191 then 2 else 0
  else if b0 < 240 then if 2 < n ∧ ((if b0 = 224 then 160 else 128) ≤ b1 ∧ b1 ≤ (if b0 = 237 then 159 else 191)) ∧ 128 ≤ b2 ∧ b2 ≤ 191 then 3 else 0
  else if b0 < 245 then if 3 < n ∧ ((if b0 = 240 then 144 else 128) ≤ b1 ∧ b1 ≤ (if b0 = 244 then 143 else 191)) ∧ (128 ≤ b2 ∧ b2 ≤ 191) ∧ 128 ≤ b3 ∧ b3 ≤ 191 then 4 else 0
  else 0
theorem utfLen_N {s : B} (hs : s ≠ []) : utfLen s = utfN s.length (at0 s 0) (at0 s 1) (at0 s 2) (at0 s 3) := by
  match s, hs with
  | [a], _ =>
    simp only [utfLen, utfN, at0, List.length_cons, List.length_nil, List.getD_cons_zero]
    repeat' split
    all_goals first | rfl | omega
  | [a, b], _ =>
    simp only [utfLen, utfN, at0, List.length_cons, List.length_nil, List.getD_cons_zero, List.getD_cons_succ, cont, decide_eq_true_eq]
    repeat' split
    all_goals first | rfl | omega
  | [a, b, c], _ =>
    simp only [utfLen, utfN, at0, List.length_cons, List.length_nil, List.getD_cons_zero, List.getD_cons_succ, cont, between, decide_eq_true_eq, Bool.and_eq_true]
    repeat' split
    all_goals first | rfl | omega
  | a :: b :: c :: d :: r, _ =>
    simp only [utfLen, utfN, at0, List.length_cons, List.getD_cons_zero, List.getD_cons_succ, cont, between, decide_eq_true_eq, Bool.and_eq_true]
    repeat' split
    all_goals first | rfl | omega
set_option maxHeartbeats 8000000 in
open Go.Lib in
theorem decodeN_utf (n b0 b1 b2 b3 : Nat) (h0 : b0 < 256) (h1 : b1 < 256) (h2 : b2 < 256) (h3 : b3 < 256) (_ : 0 < n) :
    (utfN n b0 b1 b2 b3 = 0 → decodeN n b0 b1 b2 b3 = (65533, 1)) ∧ (0 < utfN n b0 b1 b2 b3 → (decodeN n b0 b1 b2 b3).2 = utfN n b0 b1 b2 b3 ∧ ¬ ((decodeN n b0 b1 b2 b3).1 = 65533 ∧ (decodeN n b0 b1 b2 b3).2 = 1) ∧ (decodeN n b0 b1 b2 b3).1 < 1114112) := by
  unfold decodeN utfN
  constructor
  · intro h
    repeat' split at h
    all_goals first | omega | skip
    all_goals repeat' split
    all_goals first | rfl | omega
  · intro h
    repeat' split at h
    all_goals first | omega | skip
    all_goals repeat' split
    all_goals first | omega | skip
    all_goals (refine ⟨?_, ?_, ?_⟩ <;> simp only <;> omega)
end Go.Lex
