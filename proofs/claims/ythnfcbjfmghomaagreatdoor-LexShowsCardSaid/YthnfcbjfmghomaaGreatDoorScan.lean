/- The scanner, said step by step. No condition. -/
import Derived.Test.YthnfcbjfmghomaaGreatDoorLexE
namespace Go.Lex
theorem quotedF_end : ∀ (f i : Nat) (s out : B) (t : B) (n : Nat), quotedF f i s out = .ok (t, n) → i < n ∧ n ≤ i + s.length
  | 0, i, s, out, t, n, h => by simp [quotedF] at h
  | f + 1, i, [], out, t, n, h => by simp [quotedF] at h
  | f + 1, i, c :: r, out, t, n, h => by
    unfold quotedF at h
    split at h
    · simp only [Except.ok.injEq, Prod.mk.injEq] at h
      simp only [List.length_cons]
      omega
    split at h
    · cases h
    split at h
    · cases r with
      | nil => cases h
      | cons e r' =>
        simp only [] at h
        cases he : esc e with
        | none => rw [he] at h; cases h
        | some b =>
          rw [he] at h
          have := quotedF_end f _ _ _ _ _ h
          simp only [List.length_cons]
          omega
    · have hle := utfLen_le (c :: r)
      cases hu : utfLen (c :: r) with
      | zero => rw [hu] at h; cases h
      | succ k =>
        rw [hu] at h hle
        have := quotedF_end f _ _ _ _ _ h
        rw [List.length_drop] at this
        omega
theorem first_pos {s t : B} {k n : Nat} (h : first s = .ok (k, t, n)) : 1 ≤ n ∧ n ≤ s.length := by
  cases s with
  | nil => cases h
  | cons c r =>
    unfold first at h
    simp only [] at h
    split at h
    · rename_i hal
      have h0 : rest c = true := by unfold rest; rw [hal]; simp
      have h1 : 1 ≤ ((c :: r).takeWhile rest).length := by rw [List.takeWhile_cons, h0]; simp
      have h2 := ((c :: r).takeWhile_sublist rest).length_le
      repeat' split at h
      all_goals first | (simp only [Except.ok.injEq, Prod.mk.injEq] at h; omega) | cases h
    split at h
    · rename_i hal
      have h0 : lump c = true := by unfold lump; rw [hal]; simp
      have h1 : 1 ≤ ((c :: r).takeWhile lump).length := by rw [List.takeWhile_cons, h0]; simp
      have h2 := ((c :: r).takeWhile_sublist lump).length_le
      repeat' split at h
      all_goals first | (simp only [Except.ok.injEq, Prod.mk.injEq] at h; omega) | cases h
    split at h
    · split at h
      · rename_i t' n' hq
        have := quotedF_end _ _ _ _ _ _ hq
        simp only [Except.ok.injEq, Prod.mk.injEq] at h
        simp only [List.length_cons]
        omega
      · cases h
    split at h
    · rename_i h2
      simp only [Except.ok.injEq, Prod.mk.injEq] at h
      omega
    split at h
    · simp only [Except.ok.injEq, Prod.mk.injEq] at h
      simp only [List.length_cons]
      omega
    · cases h
def comment (s : B) : B := s.takeWhile (· != 10)
theorem comment_pos (r : B) : 1 ≤ (comment (45 :: r)).length := by simp [comment]
theorem scanF_fuel : ∀ (f g i : Nat) (s : B) (acc : List Tok), s.length < f → s.length < g → scanF f i s acc = scanF g i s acc
  | 0, _, _, _, _, h, _ => by omega
  | _, 0, _, _, _, _, h => by omega
  | f + 1, g + 1, i, [], acc, _, _ => rfl
  | f + 1, g + 1, i, c :: r, acc, hf, hg => by
    simp only [List.length_cons] at hf hg
    unfold scanF
    split
    · exact scanF_fuel f g _ _ _ (by omega) (by omega)
    split
    · rename_i h
      have h1 : 1 ≤ ((c :: r).takeWhile (· != 10)).length := by rw [h.1]; exact comment_pos r
      simp only []
      cases utfBad ((c :: r).takeWhile (· != 10)) with
      | some k => rfl
      | none => exact scanF_fuel f g _ _ _ (by rw [List.length_drop, List.length_cons]; omega) (by rw [List.length_drop, List.length_cons]; omega)
    · cases hfst : first (c :: r) with
      | error e => rfl
      | ok x =>
        obtain ⟨k, t, n⟩ := x
        have := first_pos hfst
        exact scanF_fuel f g _ _ _ (by rw [List.length_drop, List.length_cons]; omega) (by rw [List.length_drop, List.length_cons]; omega)
def scanL (i : Nat) (s : B) (acc : List Tok) : Except Fault (List Tok) := scanF (s.length + 1) i s acc
theorem scanL_F {f i : Nat} {s : B} {acc : List Tok} (h : s.length < f) : scanF f i s acc = scanL i s acc := scanF_fuel _ _ _ _ _ h (Nat.lt_succ_self _)
theorem scanL_nil (i : Nat) (acc : List Tok) : scanL i [] acc = .ok (acc ++ [⟨0, [], i⟩]) := rfl
theorem scanL_blank {i : Nat} {c : UInt8} {r : B} {acc : List Tok} (h : blank c = true) : scanL i (c :: r) acc = scanL (i + 1) r acc := by
  conv => lhs; unfold scanL scanF
  rw [if_pos h]
  exact scanL_F (by simp)
theorem scanL_line {i : Nat} {c : UInt8} {r : B} {acc : List Tok} (h : blank c = false) (h2 : c = 45 ∧ r.head? = some 45) : scanL i (c :: r) acc = match utfBad (comment (c :: r)) with
    | some k => .error ⟨30, i + k⟩
    | none => scanL (i + (comment (c :: r)).length) ((c :: r).drop (comment (c :: r)).length) acc := by
  have h1 : 1 ≤ ((c :: r).takeWhile (· != 10)).length := by rw [h2.1]; exact comment_pos r
  conv => lhs; unfold scanL scanF
  rw [if_neg (by rw [h]; decide), if_pos h2]
  simp only [comment]
  cases utfBad ((c :: r).takeWhile (· != 10)) with
  | some k => rfl
  | none => exact scanL_F (by rw [List.length_drop, List.length_cons]; omega)
theorem scanL_tok {i : Nat} {c : UInt8} {r : B} {acc : List Tok} (h : blank c = false) (h2 : ¬ (c = 45 ∧ r.head? = some 45)) : scanL i (c :: r) acc = match first (c :: r) with
    | .error e => .error ⟨e.err, i + e.at'⟩
    | .ok (k, t, n) => scanL (i + n) ((c :: r).drop n) (acc ++ [⟨k, t, i⟩]) := by
  conv => lhs; unfold scanL scanF
  rw [if_neg (by rw [h]; decide), if_neg h2]
  cases hfst : first (c :: r) with
  | error e => rfl
  | ok x =>
    obtain ⟨k, t, n⟩ := x
    have := first_pos hfst
    exact scanL_F (by rw [List.length_drop, List.length_cons]; omega)
theorem scan_L {s : B} (h : s.length ≤ 4096) : scan s = scanL 0 s [] := by unfold scan; rw [if_neg (by omega)]; rfl
theorem scan_big {s : B} (h : 4096 < s.length) : scan s = .error ⟨3, 4096⟩ := by unfold scan; rw [if_pos h]
end Go.Lex
