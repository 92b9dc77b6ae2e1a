/- Tokens written, in plain Lean. -/
import Derived.Test.YthnfcbjfmghomaaGreatDoorScan
import Derived.Test.YthnfcbjfmghomaaGreatDoorQuote
import Derived.Lib.Join
namespace Go.Lex
/-- one token, written, if it reads back -/
def show1 (k : Int) (t : B) : Option B := match scan (written k t) with
  | .ok [a, _] => if (a.kind : Int) = k ∧ a.text = t ∧ a.at' = 0 ∧ written k t ≠ [] ∧ (k ≠ 4 → a.text = written k t) then some (written k t) else none
  | _ => none
def showF : List B → List (Int × B) → Option (List B)
  | outs, [] => some outs
  | outs, (k, t) :: r => if k = 0 ∧ t = [] then showF outs r else match show1 k t with
    | some s => showF (outs ++ [s]) r
    | none => none
theorem show1_two {k : Int} {t : B} {a z : Tok} (h : scan (written k t) = .ok [a, z]) : show1 k t = if (a.kind : Int) = k ∧ a.text = t ∧ a.at' = 0 ∧ written k t ≠ [] ∧ (k ≠ 4 → a.text = written k t) then some (written k t) else none := by
  unfold show1
  rw [h]
theorem show1_not {k : Int} {t : B} {l : List Tok} (h : scan (written k t) = .ok l) (hl : l.length ≠ 2) : show1 k t = none := by
  unfold show1
  rw [h]
  match l, hl with
  | [], _ => rfl
  | [_], _ => rfl
  | [_, _], h => exact absurd rfl h
  | _ :: _ :: _ :: _, _ => rfl
theorem quotedF_err : ∀ (f i : Nat) (s out : B) (e : Fault), quotedF f i s out = .error e → e.err ≠ 0
  | 0, i, s, out, e, h => by simp only [quotedF, Except.error.injEq] at h; subst h; decide
  | f + 1, i, [], out, e, h => by simp only [quotedF, Except.error.injEq] at h; subst h; decide
  | f + 1, i, c :: r, out, e, h => by
    unfold quotedF at h
    split at h
    · cases h
    split at h
    · cases h; decide
    split at h
    · cases r with
      | nil => cases h; decide
      | cons x r' =>
        simp only [] at h
        cases he : esc x with
        | none => rw [he] at h; cases h; decide
        | some b => rw [he] at h; exact quotedF_err f _ _ _ _ h
    · cases hu : utfLen (c :: r) with
      | zero => rw [hu] at h; cases h; show 30 ≠ 0; decide
      | succ k => rw [hu] at h; exact quotedF_err f _ _ _ _ h
theorem first_err {s : B} {e : Fault} (h : first s = .error e) : e.err ≠ 0 := by
  cases s with
  | nil => cases h; decide
  | cons c r =>
    unfold first at h
    simp only [] at h
    split at h
    · repeat' split at h
      all_goals first | (cases h; done) | (cases h; decide)
    split at h
    · repeat' split at h
      all_goals first | (cases h; done) | (cases h; decide)
    split at h
    · split at h
      · cases h
      · rename_i e' hq
        cases h
        exact quotedF_err _ _ _ _ _ hq
    repeat' split at h
    all_goals first | (cases h; done) | (cases h; decide)
theorem scanF_err : ∀ (f i : Nat) (s : B) (acc : List Tok) (e : Fault), s.length < f → scanF f i s acc = .error e → e.err ≠ 0
  | 0, _, _, _, _, h, _ => by omega
  | f + 1, i, [], acc, e, _, h => by simp [scanF] at h
  | f + 1, i, c :: r, acc, e, hf, h => by
    simp only [List.length_cons] at hf
    unfold scanF at h
    split at h
    · exact scanF_err f _ _ _ _ (by omega) h
    split at h
    · rename_i hc
      have h1 : 1 ≤ ((c :: r).takeWhile (· != 10)).length := by rw [hc.1]; exact comment_pos r
      simp only [] at h
      cases hu : utfBad ((c :: r).takeWhile (· != 10)) with
      | some k => rw [hu] at h; cases h; show 30 ≠ 0; decide
      | none => rw [hu] at h; exact scanF_err f _ _ _ _ (by rw [List.length_drop, List.length_cons]; omega) h
    · cases hfst : first (c :: r) with
      | error e' => rw [hfst] at h; cases h; show e'.err ≠ 0; exact first_err hfst
      | ok x =>
        obtain ⟨k, t, n⟩ := x
        have := first_pos hfst
        rw [hfst] at h
        exact scanF_err f _ _ _ _ (by rw [List.length_drop, List.length_cons]; omega) h
theorem scan_err {s : B} {e : Fault} (h : scan s = .error e) : e.err ≠ 0 := by
  unfold scan at h
  split at h
  · cases h; decide
  · exact scanF_err _ _ _ _ _ (Nat.lt_succ_self _) h
theorem lens_le (M : Nat) : ∀ {xs : List B}, (∀ o ∈ xs, o.length ≤ M) → Lib.lens xs ≤ xs.length * M
  | [], _ => by simp [Lib.lens]
  | x :: r, h => by
    have ih := lens_le M (xs := r) fun o ho => h o (List.mem_cons_of_mem _ ho)
    have := h x List.mem_cons_self
    simp only [Lib.lens, List.map_cons, List.sum_cons, List.length_cons, Nat.add_mul, Nat.one_mul] at *
    omega
theorem join_le {xs : List B} (hn : xs.length ≤ 4000) (h : ∀ o ∈ xs, o.length ≤ 40002) : (Lib.join xs [32]).length ≤ 170000000 := by
  cases xs with
  | nil => simp [Lib.join_nil]
  | cons x r =>
    rw [Lib.join_cons, List.length_append, Lib.joinTail_length]
    have h1 := h x List.mem_cons_self
    have h2 := lens_le 40002 (xs := r) fun o ho => h o (List.mem_cons_of_mem _ ho)
    simp only [List.length_cons, List.length_nil, Nat.zero_add, Nat.one_mul] at *
    have h3 : r.length * 40002 ≤ 4000 * 40002 := Nat.mul_le_mul_right _ (by omega)
    omega
theorem written_len (k : Int) (t : B) : (written k t).length ≤ 2 * t.length + 2 := by
  unfold written quote
  split
  · have := quote_len t
    have h2 : t.countP isKey ≤ t.length := List.countP_le_length
    simp only [List.length_append, List.length_cons, List.length_nil]
    omega
  · omega
end Go.Lex
