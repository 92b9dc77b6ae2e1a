/- Laws of the scanner, in plain Lean: what follows a source, where its tokens stand, tokens written and read again. No condition. -/
import Derived.Test.YthnfcbjfmghomaaGreatDoorShow
namespace Go.Lex
theorem blank_cases {c : UInt8} (h : blank c = true) : c = 32 ∨ c = 10 ∨ c = 9 ∨ c = 13 := by
  unfold blank at h
  simpa [or_assoc] using h
/-- a stop: a byte that ends every token but a quoted one -/
def stop (c : UInt8) : Prop := c = 32 ∨ c = 10
theorem stop_rest {c : UInt8} (h : stop c) : rest c = false := by rcases h with rfl | rfl <;> decide
theorem stop_lump {c : UInt8} (h : stop c) : lump c = false := by rcases h with rfl | rfl <;> decide
theorem stop_blank {c : UInt8} (h : stop c) : blank c = true := by rcases h with rfl | rfl <;> decide
theorem tw_app {p : UInt8 → Bool} {c : UInt8} (hc : p c = false) (r : B) : ∀ s : B, (s ++ c :: r).takeWhile p = s.takeWhile p
  | [] => by simp [hc]
  | x :: s => by
    simp only [List.cons_append, List.takeWhile_cons, tw_app hc r s]
theorem signs_len {s : B} (h : isSign s = true) : s.length = 1 ∨ s.length = 2 := by
  have : ∀ t ∈ signs, t.length = 1 ∨ t.length = 2 := by decide
  exact this s (List.contains_iff_mem.1 h)
theorem sign_no_stop (x : UInt8) {c : UInt8} (hc : stop c) : isSign [x, c] = false := by
  have h : ∀ t ∈ signs, ∀ x : UInt8, t ≠ [x, c] := by
    rcases hc with rfl | rfl
    · intro t ht x e
      subst e
      have : ∀ t ∈ signs, t.getD 1 0 ≠ 32 := by decide
      exact this _ ht rfl
    · intro t ht x e
      subst e
      have : ∀ t ∈ signs, t.getD 1 0 ≠ 10 := by decide
      exact this _ ht rfl
  unfold isSign
  rw [Bool.eq_false_iff]
  intro hh
  exact h _ (List.contains_iff_mem.1 hh) x rfl
theorem sign_head {s : B} (h : isSign s = true) : ∃ c r, s = c :: r ∧ blank c = false ∧ ¬ (c = 45 ∧ r.head? = some 45) ∧ small c = false ∧ great c = false ∧ digit c = false ∧ c ≠ 34 := by
  have : ∀ t ∈ signs, t ≠ [] ∧ blank (t.headD 0) = false ∧ ¬ (t.headD 0 = 45 ∧ t.tail.head? = some 45) ∧ small (t.headD 0) = false ∧ great (t.headD 0) = false ∧ digit (t.headD 0) = false ∧ t.headD 0 ≠ 34 := by decide
  have := this s (List.contains_iff_mem.1 h)
  cases s with
  | nil => exact absurd rfl this.1
  | cons c r => exact ⟨c, r, rfl, this.2⟩
/-- one more code point -/
theorem quotedL_chr {i : Nat} {c : UInt8} {r out : B} (h1 : ¬ c.toNat < 32) (h2 : c ≠ 34) (h3 : c ≠ 92) : quotedL i (c :: r) out = match utfLen (c :: r) with
    | 0 => .error ⟨30, i⟩
    | n + 1 => quotedL (i + (n + 1)) ((c :: r).drop (n + 1)) (out ++ (c :: r).take (n + 1)) := by
  conv => lhs; unfold quotedL quotedF
  rw [if_neg h2, if_neg h1, if_neg h3]
  have hle := utfLen_le (c :: r)
  cases hu : utfLen (c :: r) with
  | zero => rfl
  | succ n => exact quotedL_F (by rw [List.length_drop, List.length_cons]; omega)
/-- what follows a quoted text does not count -/
theorem quotedL_app {c0 : UInt8} (hc : stop c0) (x : B) : ∀ (m i : Nat) (s out : B), s.length ≤ m → (c0 = 10 ∨ ∃ y, quotedL i s out = .ok y) → quotedL i (s ++ c0 :: x) out = quotedL i s out
  | _, i, [], out, _, h => by
    rcases h with rfl | ⟨y, h⟩
    · exact quotedL_low (by decide)
    · cases h
  | 0, i, _ :: _, out, h, _ => by simp at h
  | m + 1, i, c :: r, out, hm, h => by
    simp only [List.length_cons] at hm
    rw [List.cons_append]
    by_cases e1 : c = 34
    · subst e1; rfl
    by_cases e2 : c.toNat < 32
    · rw [quotedL_low e2, quotedL_low e2]
    by_cases e3 : c = 92
    · subst e3
      cases r with
      | nil =>
        rcases h with rfl | ⟨y, h⟩
        · rfl
        · cases h
      | cons e r' =>
        rw [List.cons_append, quotedL_esc, quotedL_esc]
        rw [quotedL_esc] at h
        cases he : esc e with
        | none => rfl
        | some b =>
          rw [he] at h
          exact quotedL_app hc x m _ r' _ (by simp only [List.length_cons] at hm; omega) h
    rw [quotedL_chr e2 e1 e3, quotedL_chr e2 e1 e3]
    rw [quotedL_chr e2 e1 e3] at h
    rw [← List.cons_append, utfLen_stop (by simp) (fun z hz => by cases hz; rcases hc with rfl | rfl <;> decide)]
    have hle := utfLen_le (c :: r)
    cases hu : utfLen (c :: r) with
    | zero => rfl
    | succ n =>
      rw [hu] at h hle
      simp only [] at h ⊢
      rw [List.drop_append_of_le_length hle, List.take_append_of_le_length hle]
      exact quotedL_app hc x m _ _ _ (by rw [List.length_drop, List.length_cons]; omega) h
theorem first_quoted (r : B) : first (34 :: r) = match quotedL 1 r [] with
    | .ok (t, n) => .ok (4, t, n)
    | .error e => .error e := rfl
/-- what follows a first token, behind a stop, does not count -/
theorem first_app {c0 : UInt8} (hc : stop c0) (x : B) {s : B} (hs : s ≠ []) (h : c0 = 10 ∨ ∃ y, first s = .ok y) : first (s ++ c0 :: x) = first s := by
  cases s with
  | nil => exact absurd rfl hs
  | cons c r =>
    by_cases hq : c = 34
    · subst hq
      rw [List.cons_append, first_quoted, first_quoted]
      rw [quotedL_app hc x r.length 1 r [] (Nat.le_refl _) ?_]
      rcases h with h | ⟨y, h⟩
      · exact .inl h
      · refine .inr ?_
        rw [first_quoted] at h
        cases hh : quotedL 1 r [] with
        | ok z => exact ⟨z, rfl⟩
        | error e => rw [hh] at h; cases h
    · unfold first
      simp only [List.cons_append]
      have e1 : (c :: (r ++ c0 :: x)).takeWhile rest = (c :: r).takeWhile rest := tw_app (stop_rest hc) x (c :: r)
      have e2 : (c :: (r ++ c0 :: x)).takeWhile lump = (c :: r).takeWhile lump := tw_app (stop_lump hc) x (c :: r)
      rw [e1, e2, if_neg hq, if_neg hq]
      have e3 : (if 2 ≤ (c :: (r ++ c0 :: x)).length ∧ isSign ((c :: (r ++ c0 :: x)).take 2) = true then (Except.ok (6, (c :: (r ++ c0 :: x)).take 2, 2) : Except Fault (Nat × B × Nat))
          else if isSign ((c :: (r ++ c0 :: x)).take 1) = true then .ok (6, (c :: (r ++ c0 :: x)).take 1, 1) else .error ⟨60, 0⟩) =
          (if 2 ≤ (c :: r).length ∧ isSign ((c :: r).take 2) = true then .ok (6, (c :: r).take 2, 2) else if isSign ((c :: r).take 1) = true then .ok (6, (c :: r).take 1, 1) else .error ⟨60, 0⟩) := by
        cases r with
        | nil =>
          rw [if_neg (c := 2 ≤ [c].length ∧ _) (by simp)]
          rw [if_neg (by
            rintro ⟨_, h⟩
            simp only [List.nil_append, List.take_succ_cons, List.take_zero] at h
            rw [sign_no_stop c hc] at h
            cases h)]
          rfl
        | cons d r =>
          have h1 : 2 ≤ (c :: d :: (r ++ c0 :: x)).length := by simp
          have h2 : 2 ≤ (c :: d :: r).length := by simp
          simp only [h1, h2, List.cons_append, List.take_succ_cons, List.take_zero]
          congr
      rw [e3]
theorem line_app {c0 : UInt8} (hc : stop c0) (x : B) {r : B} : ((r ++ c0 :: x).head? = some 45) ↔ r.head? = some 45 := by
  cases r with
  | nil => simp only [List.nil_append, List.head?_cons, List.head?_nil, Option.some.injEq]; rcases hc with rfl | rfl <;> decide
  | cons d r => simp
/-- a source, a line's end, a source -/
theorem scanL_app (b : B) : ∀ (m i : Nat) (a : B) (acc : List Tok), a.length ≤ m → scanL i (a ++ 10 :: b) acc = match scanL i a acc with
    | .error f => .error f
    | .ok l => scanL (i + a.length + 1) b l.dropLast
  | _, i, [], acc, _ => by
    rw [List.nil_append, scanL_blank (by decide), scanL_nil]
    simp
  | 0, i, _ :: _, acc, h => by simp at h
  | m + 1, i, c :: r, acc, hm => by
    simp only [List.length_cons] at hm
    rw [List.cons_append]
    by_cases h1 : blank c = true
    · rw [scanL_blank h1, scanL_blank h1, scanL_app b m _ r acc (by omega)]
      simp only [List.length_cons]
      rw [show i + 1 + r.length + 1 = i + (r.length + 1) + 1 by omega]
    replace h1 : blank c = false := by simpa using h1
    by_cases h2 : c = 45 ∧ r.head? = some 45
    · rw [scanL_line h1 h2, scanL_line h1 ⟨h2.1, (line_app (.inr rfl) b).2 h2.2⟩]
      have e : comment (c :: (r ++ 10 :: b)) = comment (c :: r) := tw_app (by decide) b (c :: r)
      rw [e]
      have h3 : 1 ≤ (comment (c :: r)).length := by rw [h2.1]; exact comment_pos r
      have h4 := ((c :: r).takeWhile_sublist (· != 10)).length_le
      change (comment (c :: r)).length ≤ _ at h4
      simp only [List.length_cons] at h4
      cases utfBad (comment (c :: r)) with
      | some k => rfl
      | none =>
        simp only []
        rw [← List.cons_append, List.drop_append_of_le_length (by simpa using h4), scanL_app b m _ _ acc (by rw [List.length_drop, List.length_cons]; omega)]
        rw [List.length_drop]
        simp only [List.length_cons]
        rw [show i + (comment (c :: r)).length + (r.length + 1 - (comment (c :: r)).length) + 1 = i + (r.length + 1) + 1 by omega]
    · rw [scanL_tok h1 h2, scanL_tok h1 (fun hh => h2 ⟨hh.1, (line_app (.inr rfl) b).1 hh.2⟩)]
      rw [← List.cons_append, first_app (.inr rfl) b (by simp) (.inl rfl)]
      cases hf : first (c :: r) with
      | error e => rfl
      | ok y =>
        obtain ⟨k, t, n⟩ := y
        have hp := first_pos hf
        simp only [List.length_cons] at hp
        simp only []
        rw [List.drop_append_of_le_length (by simpa using hp.2), scanL_app b m _ _ _ (by rw [List.length_drop, List.length_cons]; omega)]
        rw [List.length_drop]
        simp only [List.length_cons]
        rw [show i + n + (r.length + 1 - n) + 1 = i + (r.length + 1) + 1 by omega]
/-! ### Places -/
def Tok.on (d : Nat) (t : Tok) : Tok := { t with at' := t.at' + d }
def moved (d : Nat) (acc : List Tok) : Except Fault (List Tok) → Except Fault (List Tok)
  | .ok l => .ok (acc ++ l.map (Tok.on d))
  | .error f => .error ⟨f.err, f.at' + d⟩
/-- further on, behind tokens -/
theorem scanL_on (d : Nat) (pre : List Tok) : ∀ (m i : Nat) (s : B) (acc : List Tok), s.length ≤ m → scanL (i + d) s (pre ++ acc.map (Tok.on d)) = moved d pre (scanL i s acc)
  | _, i, [], acc, _ => by
    rw [scanL_nil, scanL_nil]
    simp [moved, Tok.on]
  | 0, i, _ :: _, acc, h => by simp at h
  | m + 1, i, c :: r, acc, hm => by
    simp only [List.length_cons] at hm
    by_cases h1 : blank c = true
    · rw [scanL_blank h1, scanL_blank h1, show i + d + 1 = i + 1 + d by omega]
      exact scanL_on d pre m _ r acc (by omega)
    replace h1 : blank c = false := by simpa using h1
    by_cases h2 : c = 45 ∧ r.head? = some 45
    · rw [scanL_line h1 h2, scanL_line h1 h2]
      have h3 : 1 ≤ (comment (c :: r)).length := by rw [h2.1]; exact comment_pos r
      cases utfBad (comment (c :: r)) with
      | some k => simp only [moved]; congr 2; omega
      | none =>
        simp only []
        rw [show i + d + (comment (c :: r)).length = i + (comment (c :: r)).length + d by omega]
        exact scanL_on d pre m _ _ acc (by rw [List.length_drop, List.length_cons]; omega)
    · rw [scanL_tok h1 h2, scanL_tok h1 h2]
      cases hf : first (c :: r) with
      | error e => simp only [moved]; congr 2; omega
      | ok y =>
        obtain ⟨k, t, n⟩ := y
        have hp := first_pos hf
        simp only []
        have := scanL_on d pre m (i + n) ((c :: r).drop n) (acc ++ [⟨k, t, i⟩]) (by rw [List.length_drop, List.length_cons]; omega)
        rw [show i + d + n = i + n + d by omega, ← this]
        simp [Tok.on]
/-- LexParts' law -/
theorem scan_parts {a b : B} (h : a.length + b.length < 4096) : scan (a ++ 10 :: b) = match scan a with
    | .error f => .error f
    | .ok l => moved (a.length + 1) l.dropLast (scan b) := by
  rw [scan_L (by simp; omega), scan_L (by omega), scan_L (by omega), scanL_app b a.length 0 a [] (Nat.le_refl _)]
  cases scanL 0 a [] with
  | error f => rfl
  | ok l =>
    have := scanL_on (a.length + 1) l.dropLast b.length 0 b [] (Nat.le_refl _)
    simp only [List.map_nil, List.append_nil] at this
    simp only []
    rw [← this, Nat.add_assoc]
theorem quotedL_err_at : ∀ (m i : Nat) (s out : B) (e : Fault), s.length ≤ m → quotedL i s out = .error e → e.at' ≤ i + s.length
  | _, i, [], out, e, _, h => by cases h; exact Nat.zero_le _
  | 0, i, _ :: _, out, e, h, _ => by simp at h
  | m + 1, i, c :: r, out, e, hm, h => by
    simp only [List.length_cons] at hm
    by_cases e1 : c = 34
    · subst e1; cases h
    by_cases e2 : c.toNat < 32
    · rw [quotedL_low e2] at h; cases h; exact Nat.zero_le _
    by_cases e3 : c = 92
    · subst e3
      cases r with
      | nil => cases h; exact Nat.zero_le _
      | cons x r' =>
        rw [quotedL_esc] at h
        cases he : esc x with
        | none => rw [he] at h; cases h; exact Nat.zero_le _
        | some b =>
          rw [he] at h
          simp only [List.length_cons] at hm ⊢
          have := quotedL_err_at m _ r' _ e (by omega) h
          omega
    rw [quotedL_chr e2 e1 e3] at h
    have hle := utfLen_le (c :: r)
    cases hu : utfLen (c :: r) with
    | zero => rw [hu] at h; cases h; exact Nat.le_add_right _ _
    | succ n =>
      rw [hu] at h hle
      have := quotedL_err_at m _ _ _ e (by rw [List.length_drop, List.length_cons]; omega) h
      rw [List.length_drop] at this
      omega
theorem first_err_at {s : B} {e : Fault} (hs : s ≠ []) (h : first s = .error e) : e.at' ≤ s.length := by
  cases s with
  | nil => exact absurd rfl hs
  | cons c r =>
    by_cases hq : c = 34
    · subst hq
      rw [first_quoted] at h
      cases hh : quotedL 1 r [] with
      | ok z => rw [hh] at h; cases h
      | error x =>
        rw [hh] at h
        cases h
        have := quotedL_err_at r.length 1 r [] _ (Nat.le_refl _) hh
        simp only [List.length_cons]
        omega
    · unfold first at h
      simp only [] at h
      rw [if_neg hq] at h
      repeat' split at h
      all_goals first | (cases h; done) | (cases h; exact Nat.zero_le _)
/-- what a scan ends with, and where its fault lies -/
theorem scanL_end : ∀ (m i : Nat) (s : B) (acc : List Tok), s.length ≤ m → match scanL i s acc with
    | .ok l => ∃ l', l = acc ++ l' ++ [⟨0, [], i + s.length⟩]
    | .error f => i ≤ f.at' ∧ f.at' ≤ i + s.length
  | _, i, [], acc, _ => ⟨[], by simp⟩
  | 0, i, _ :: _, acc, h => by simp at h
  | m + 1, i, c :: r, acc, hm => by
    simp only [List.length_cons] at hm
    have key : ∀ (n : Nat) (acc' : List Tok) (ad : List Tok), 1 ≤ n → n ≤ (c :: r).length → acc' = acc ++ ad → match scanL (i + n) ((c :: r).drop n) acc' with
        | .ok l => ∃ l', l = acc ++ l' ++ [⟨0, [], i + (c :: r).length⟩]
        | .error f => i ≤ f.at' ∧ f.at' ≤ i + (c :: r).length := fun n acc' ad h1 h2 e => by
      have ih := scanL_end m (i + n) ((c :: r).drop n) acc' (by rw [List.length_drop, List.length_cons]; omega)
      rw [List.length_drop] at ih
      cases hq : scanL (i + n) ((c :: r).drop n) acc' with
      | ok l =>
        rw [hq] at ih
        obtain ⟨l', rfl⟩ := ih
        refine ⟨ad ++ l', ?_⟩
        rw [e, show i + n + ((c :: r).length - n) = i + (c :: r).length by omega]
        simp
      | error f =>
        rw [hq] at ih
        simp only [] at ih ⊢
        omega
    by_cases h1 : blank c = true
    · rw [scanL_blank h1]
      exact key 1 acc [] (Nat.le_refl _) (by simp) (by simp)
    replace h1 : blank c = false := by simpa using h1
    by_cases h2 : c = 45 ∧ r.head? = some 45
    · rw [scanL_line h1 h2]
      have h3 : 1 ≤ (comment (c :: r)).length := by rw [h2.1]; exact comment_pos r
      have h4 := ((c :: r).takeWhile_sublist (· != 10)).length_le
      change (comment (c :: r)).length ≤ _ at h4
      cases hu : utfBad (comment (c :: r)) with
      | some k =>
        have := utfBad_le hu
        simp only []
        omega
      | none => exact key _ acc [] h3 h4 (by simp)
    · rw [scanL_tok h1 h2]
      cases hf : first (c :: r) with
      | error e =>
        have := first_err_at (by simp) hf
        simp only []
        omega
      | ok y =>
        obtain ⟨k, t, n⟩ := y
        have hp := first_pos hf
        exact key n _ [⟨k, t, i⟩] hp.1 hp.2 rfl
theorem scan_end {s : B} : match scan s with
    | .ok l => ∃ l', l = l' ++ [⟨0, [], s.length⟩]
    | .error f => f.at' ≤ s.length := by
  by_cases h : s.length ≤ 4096
  · rw [scan_L h]
    have := scanL_end s.length 0 s [] (Nat.le_refl _)
    cases hq : scanL 0 s [] with
    | ok l =>
      rw [hq] at this
      obtain ⟨l', rfl⟩ := this
      exact ⟨l', by simp⟩
    | error f =>
      rw [hq] at this
      simp only [] at this ⊢
      omega
  · rw [scan_big (by omega)]
    simp only []
    omega
/-! ### Written and read -/
theorem esc_quoteB {b e : UInt8} (h : esc e = some b) : quoteB b = [92, e] := by
  unfold esc at h
  repeat' split at h
  all_goals first | (cases h; done) | skip
  all_goals (cases h; subst_vars; rfl)
theorem quoteB_quotedL {b : UInt8} (h : isKey b = true) : ∃ e, quoteB b = [92, e] ∧ esc e = some b := by
  unfold isKey kset at h
  simp only [List.contains_cons, List.contains_nil, Bool.or_false, Bool.or_eq_true, beq_iff_eq] at h
  rcases h with rfl | rfl | rfl | rfl
  · exact ⟨92, rfl, rfl⟩
  · exact ⟨34, rfl, rfl⟩
  · exact ⟨116, rfl, rfl⟩
  · exact ⟨110, rfl, rfl⟩
theorem cont_plain {c : UInt8} (h : 128 ≤ c.toNat) : isKey c = false := by
  rw [Bool.eq_false_iff]
  intro hk
  unfold isKey kset at hk
  simp only [List.contains_cons, List.contains_nil, Bool.or_false, Bool.or_eq_true, beq_iff_eq] at hk
  rcases hk with rfl | rfl | rfl | rfl <;> revert h <;> decide
set_option maxHeartbeats 1000000 in
/-- the bytes of a code point behind its first one -/
theorem utfLen_tail {c : UInt8} {r : B} {n : Nat} (h : utfLen (c :: r) = n + 1) : ∀ x ∈ (r.take n), 128 ≤ x.toNat := by
  match r with
  | [] => intro x hx; simp at hx
  | [a] =>
    simp only [utfLen, cont, decide_eq_true_eq] at h
    intro x hx
    have : 1 ≤ n := by
      cases n with
      | zero => simp at hx
      | succ n => omega
    have := List.mem_of_mem_take hx
    simp only [List.mem_cons, List.not_mem_nil, or_false] at this
    subst this
    repeat' split at h
    all_goals omega
  | [a, b] =>
    simp only [utfLen, cont, between, Bool.and_eq_true, decide_eq_true_eq] at h
    intro x hx
    repeat' split at h
    all_goals first | omega | skip
    · have : n = 0 := by omega
      subst this; simp at hx
    · have : n = 1 := by omega
      subst this
      simp only [List.take_succ_cons, List.take_zero, List.mem_cons, List.not_mem_nil, or_false] at hx
      subst hx; omega
    all_goals
      have : n = 2 := by omega
      subst this
      simp only [List.take_succ_cons, List.take_zero, List.mem_cons, List.not_mem_nil, or_false] at hx
      rcases hx with rfl | rfl
      all_goals omega
  | a :: b :: d :: r =>
    simp only [utfLen, cont, between, Bool.and_eq_true, decide_eq_true_eq] at h
    intro x hx
    repeat' split at h
    all_goals first | omega | skip
    · have : n = 0 := by omega
      subst this; simp at hx
    · have : n = 1 := by omega
      subst this
      simp only [List.take_succ_cons, List.take_zero, List.mem_cons, List.not_mem_nil, or_false] at hx
      subst hx; omega
    all_goals first
      | (have : n = 2 := by omega
         subst this
         simp only [List.take_succ_cons, List.take_zero, List.mem_cons, List.not_mem_nil, or_false] at hx
         rcases hx with rfl | rfl
         all_goals omega)
      | (have : n = 3 := by omega
         subst this
         simp only [List.take_succ_cons, List.take_zero, List.mem_cons, List.not_mem_nil, or_false] at hx
         rcases hx with rfl | rfl | rfl
         all_goals omega)
theorem quote_plain {s : B} (h : ∀ x ∈ s, isKey x = false) : s.flatMap quoteB = s := quote_none (by
  rw [Bool.eq_false_iff]
  intro hh
  obtain ⟨x, hx, hk⟩ := List.any_eq_true.1 hh
  rw [h x hx] at hk
  cases hk)
theorem utfLen_take {s : B} {k : Nat} (h : utfLen s = k + 1) (x : B) : utfLen (s.take (k + 1) ++ x) = k + 1 := by
  have h4 := utfLen_le4 s
  have hl := utfLen_le s
  have e1 : (s.take (k + 1) ++ x) ≠ [] := by
    have : (s.take (k + 1)).length = k + 1 := by rw [List.length_take]; omega
    intro hh
    rw [(List.append_eq_nil_iff.1 hh).1] at this
    simp at this
  have e2 : s ≠ [] := by rintro rfl; simp at hl; omega
  have hlen : (s.take (k + 1) ++ x).length = k + 1 + x.length := by rw [List.length_append, List.length_take]; omega
  have hat : ∀ i, i < k + 1 → at0 (s.take (k + 1) ++ x) i = at0 s i := fun i hi => by
    unfold at0
    simp only [List.getD_eq_getElem?_getD]
    rw [List.getElem?_append_left (by rw [List.length_take]; omega), List.getElem?_take_of_lt hi]
  rw [utfLen_N e2] at h
  rw [utfLen_N e1, hlen, hat 0 (by omega)]
  have hc : k = 0 ∨ k = 1 ∨ k = 2 ∨ k = 3 := by rw [utfLen_N e2] at h4; omega
  rcases hc with rfl | rfl | rfl | rfl
  · unfold utfN at h ⊢
    repeat' split at h
    all_goals first | omega | (rw [if_pos (by assumption)])
  · rw [hat 1 (by omega)]
    unfold utfN at h ⊢
    repeat' split at h
    all_goals first | omega | skip
    rw [if_neg (by assumption), if_neg (by assumption), if_pos (by assumption), if_pos (by omega)]
  · rw [hat 1 (by omega), hat 2 (by omega)]
    unfold utfN at h ⊢
    repeat' split at h
    all_goals first | omega | skip
    all_goals repeat' split
    all_goals first | rfl | omega
  · rw [hat 1 (by omega), hat 2 (by omega), hat 3 (by omega)]
    unfold utfN at h ⊢
    repeat' split at h
    all_goals first | omega | skip
    all_goals repeat' split
    all_goals first | rfl | omega
/-- what a quoted text holds is read again when it is written -/
theorem quotedL_back (z : B) : ∀ (m i : Nat) (s out t : B) (n : Nat), s.length ≤ m → quotedL i s out = .ok (t, n) → ∃ u, t = out ++ u ∧ u.length + i < n ∧ ∀ (j : Nat) (o : B), quotedL j (u.flatMap quoteB ++ 34 :: z) o = .ok (o ++ u, j + (u.flatMap quoteB).length + 1)
  | _, i, [], out, t, n, _, h => by cases h
  | 0, i, _ :: _, out, t, n, h, _ => by simp at h
  | m + 1, i, c :: r, out, t, n, hm, h => by
    simp only [List.length_cons] at hm
    by_cases e1 : c = 34
    · subst e1
      rw [quotedL_end] at h
      cases h
      exact ⟨[], by simp, by simp, fun j o => by simp [quotedL_end]⟩
    by_cases e2 : c.toNat < 32
    · rw [quotedL_low e2] at h; cases h
    by_cases e3 : c = 92
    · subst e3
      cases r with
      | nil => cases h
      | cons e r' =>
        rw [quotedL_esc] at h
        cases he : esc e with
        | none => rw [he] at h; cases h
        | some b =>
          rw [he] at h
          obtain ⟨u, rfl, hl, hu⟩ := quotedL_back z m _ r' _ t n (by simp only [List.length_cons] at hm; omega) h
          refine ⟨b :: u, by simp, by simp only [List.length_cons]; omega, fun j o => ?_⟩
          rw [List.flatMap_cons, esc_quoteB he]
          simp only [List.cons_append, List.nil_append]
          rw [quotedL_esc, he]
          simp only []
          rw [hu]
          simp only [List.append_assoc, List.cons_append, List.nil_append, List.length_cons]
          congr 2
          omega
    rw [quotedL_chr e2 e1 e3] at h
    have hle := utfLen_le (c :: r)
    cases hu : utfLen (c :: r) with
    | zero => rw [hu] at h; cases h
    | succ k =>
      rw [hu] at h hle
      obtain ⟨u, rfl, hl, hback⟩ := quotedL_back z m _ ((c :: r).drop (k + 1)) _ t n (by rw [List.length_drop, List.length_cons]; omega) h
      have htk : ((c :: r).take (k + 1)).length = k + 1 := by rw [List.length_take]; omega
      refine ⟨(c :: r).take (k + 1) ++ u, by simp, by rw [List.length_append, htk]; omega, fun j o => ?_⟩
      have hpl : ((c :: r).take (k + 1)).flatMap quoteB = (c :: r).take (k + 1) := quote_plain fun x hx => by
        rw [List.take_succ_cons] at hx
        rcases List.mem_cons.1 hx with rfl | hx
        · rw [Bool.eq_false_iff]
          intro hk
          unfold isKey kset at hk
          simp only [List.contains_cons, List.contains_nil, Bool.or_false, Bool.or_eq_true, beq_iff_eq] at hk
          rcases hk with rfl | rfl | rfl | rfl
          · exact e3 rfl
          · exact e1 rfl
          · exact e2 (by decide)
          · exact e2 (by decide)
        · exact cont_plain (utfLen_tail hu x hx)
      rw [List.flatMap_append, hpl, List.append_assoc]
      have hcons : (c :: r).take (k + 1) = c :: r.take k := List.take_succ_cons
      have hlen : utfLen ((c :: r).take (k + 1) ++ (u.flatMap quoteB ++ 34 :: z)) = k + 1 := utfLen_take hu _
      rw [hcons] at hlen ⊢
      rw [List.cons_append] at hlen ⊢
      rw [quotedL_chr e2 e1 e3, hlen]
      simp only []
      rw [← List.cons_append, ← hcons]
      rw [show (c :: r).take (k + 1) ++ (u.flatMap quoteB ++ 34 :: z) = (c :: r).take (k + 1) ++ (u.flatMap quoteB ++ 34 :: z) from rfl, List.drop_append_of_le_length (by omega), List.drop_of_length_le (by omega), List.take_append_of_le_length (by omega), List.take_of_length_le (by omega), List.nil_append, hback]
      simp only [List.append_assoc, List.length_append, htk]
      congr 2
      omega
end Go.Lex
