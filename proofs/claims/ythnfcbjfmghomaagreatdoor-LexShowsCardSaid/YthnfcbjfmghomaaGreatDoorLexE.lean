/- A quoted text. No condition. -/
import Derived.Test.YthnfcbjfmghomaaGreatDoorLexD
namespace Go.Lex
set_option maxHeartbeats 4000000 in
/-- what follows a run of bytes and is no code point's later byte does not count -/
theorem utfLen_stop {t r : B} (ht : t ≠ []) (hr : ∀ c, r.head? = some c → c.toNat < 128) : utfLen (t ++ r) = utfLen t := by
  cases r with
  | nil => rw [List.append_nil]
  | cons x r =>
    have hx := hr x rfl
    rw [utfLen_N ht, utfLen_N (by simp)]
    match t, ht with
    | [a], _ =>
      simp only [List.cons_append, List.nil_append, utfN, at0, List.length_cons, List.length_nil, List.getD_cons_zero, List.getD_cons_succ]
      repeat' split
      all_goals first | rfl | omega
    | [a, b], _ =>
      simp only [List.cons_append, List.nil_append, utfN, at0, List.length_cons, List.length_nil, List.getD_cons_zero, List.getD_cons_succ]
      repeat' split
      all_goals first | rfl | omega
    | [a, b, c], _ =>
      simp only [List.cons_append, List.nil_append, utfN, at0, List.length_cons, List.length_nil, List.getD_cons_zero, List.getD_cons_succ]
      repeat' split
      all_goals first | rfl | omega
    | a :: b :: c :: d :: t, _ =>
      simp only [List.cons_append, utfN, at0, List.length_cons, List.length_append, List.getD_cons_zero, List.getD_cons_succ]
      repeat' split
      all_goals first | rfl | omega
theorem quotedF_fuel : ∀ (f g i : Nat) (s out : B), s.length < f → s.length < g → quotedF f i s out = quotedF g i s out
  | 0, _, _, _, _, h, _ => by omega
  | _, 0, _, _, _, _, h => by omega
  | f + 1, g + 1, i, [], out, _, _ => rfl
  | f + 1, g + 1, i, c :: r, out, hf, hg => by
    simp only [List.length_cons] at hf hg
    unfold quotedF
    split
    · rfl
    split
    · rfl
    split
    · cases r with
      | nil => rfl
      | cons e r' =>
        simp only [List.length_cons] at hf hg
        simp only []
        cases esc e with
        | none => rfl
        | some b => exact quotedF_fuel f g _ _ _ (by omega) (by omega)
    · cases hu : utfLen (c :: r) with
      | zero => rfl
      | succ n => exact quotedF_fuel f g _ _ _ (by rw [List.length_drop, List.length_cons]; omega) (by rw [List.length_drop, List.length_cons]; omega)
def quotedL (i : Nat) (s out : B) : Except Fault (B × Nat) := quotedF (s.length + 1) i s out
theorem quotedL_F {f i : Nat} {s out : B} (h : s.length < f) : quotedF f i s out = quotedL i s out := quotedF_fuel _ _ _ _ _ h (Nat.lt_succ_self _)
theorem quotedL_nil (i : Nat) (out : B) : quotedL i [] out = .error ⟨60, 0⟩ := rfl
theorem quotedL_end (i : Nat) (r out : B) : quotedL i (34 :: r) out = .ok (out, i + 1) := rfl
theorem quotedL_low {i : Nat} {c : UInt8} {r out : B} (h : c.toNat < 32) : quotedL i (c :: r) out = .error ⟨60, 0⟩ := by
  unfold quotedL quotedF
  rw [if_neg (by rintro rfl; revert h; decide), if_pos h]
theorem quotedL_esc0 (i : Nat) (out : B) : quotedL i [92] out = .error ⟨60, 0⟩ := rfl
theorem quotedL_esc (i : Nat) (e : UInt8) (r out : B) : quotedL i (92 :: e :: r) out = match esc e with
    | some b => quotedL (i + 2) r (out ++ [b])
    | none => .error ⟨60, 0⟩ := by
  conv => lhs; unfold quotedL quotedF
  rw [if_neg (by decide), if_neg (by decide), if_pos rfl]
  simp only []
  cases esc e with
  | none => rfl
  | some b => exact quotedL_F (by simp only [List.length_cons]; omega)
/-- a run of bytes that are neither stops nor signs -/
theorem quotedL_run : ∀ (m : Nat) (t r out : B) (i : Nat), t.length ≤ m → (∀ c ∈ t, 32 ≤ c.toNat ∧ c ≠ 34 ∧ c ≠ 92) → (∀ c, r.head? = some c → c.toNat < 128) →
    quotedL i (t ++ r) out = match utfBad t with
      | none => quotedL (i + t.length) r (out ++ t)
      | some k => .error ⟨30, i + k⟩
  | _, [], r, out, i, _, _, _ => by simp [utfBad_nil]
  | 0, c :: t, r, out, i, h, _, _ => by simp at h
  | m + 1, c :: t, r, out, i, h, ht, hr => by
    obtain ⟨h1, h2, h3⟩ := ht c (by simp)
    have hs := utfLen_stop (t := c :: t) (by simp) hr
    have hle := utfLen_le (c :: t)
    conv => lhs; unfold quotedL quotedF
    rw [List.cons_append]
    simp only []
    rw [if_neg h2, if_neg (by omega), if_neg h3, ← List.cons_append, hs]
    cases hu : utfLen (c :: t) with
    | zero => rw [utfBad_bad (by simp) hu]; rfl
    | succ n =>
      simp only []
      rw [hu] at hle
      rw [utfBad_step (Nat.succ_pos n) hu, List.drop_append_of_le_length hle, List.take_append_of_le_length hle, quotedL_F (by simp only [List.length_append, List.length_drop, List.length_cons]; omega)]
      rw [quotedL_run m ((c :: t).drop (n + 1)) r _ _ (by rw [List.length_drop]; omega) (fun x hx => ht x (List.mem_of_mem_drop hx)) hr]
      cases utfBad ((c :: t).drop (n + 1)) with
      | none =>
        simp only [Option.map_none]
        rw [List.append_assoc, List.take_append_drop, List.length_drop]
        congr 1
        omega
      | some k =>
        simp only [Option.map_some]
        congr 2
        omega
end Go.Lex
