/- Laws of the scanner, in plain Lean: where tokens stand; blanks and remarks around. No condition. -/
import Derived.Test.YthnfcbjfmghomaaGreatDoorPlainB
namespace Go.Lex
/-- LexPlaces' loop -/
def Plc (s : B) : Nat → List Tok → Prop
  | _, [] => False
  | p, [z] => p ≤ z.at' ∧ z.at' = s.length ∧ z.kind = 0 ∧ z.text = []
  | p, t :: u :: r => p ≤ t.at' ∧ t.at' ≤ s.length ∧ t.kind ≠ 0 ∧ (t.kind ≠ 4 → t.text.length ≤ s.length - t.at' ∧ (s.drop t.at').take t.text.length = t.text) ∧ Plc s (if t.kind = 4 then t.at' + 2 else t.at' + t.text.length) (u :: r)
theorem Plc.ne {s : B} {p : Nat} {l : List Tok} (h : Plc s p l) : l ≠ [] := by rintro rfl; exact h
theorem scanL_plc (s : B) : ∀ (m i p : Nat) (acc l : List Tok), s.length - i ≤ m → i ≤ s.length → p ≤ i → scanL i (s.drop i) acc = .ok l → ∃ l', l = acc ++ l' ∧ Plc s p l' := by
  intro m
  induction m with
  | zero =>
    intro i p acc l hm hi hp h
    rw [List.drop_of_length_le (by omega), scanL_nil] at h
    cases h
    exact ⟨[⟨0, [], i⟩], rfl, hp, by show i = _; omega, rfl, rfl⟩
  | succ m ih =>
    intro i p acc l hm hi hp h
    cases hd : s.drop i with
    | nil =>
      have := List.drop_eq_nil_iff.1 hd
      rw [hd, scanL_nil] at h
      cases h
      exact ⟨[⟨0, [], i⟩], rfl, hp, by show i = _; omega, rfl, rfl⟩
    | cons c r =>
      have hl : (c :: r).length = s.length - i := by rw [← hd, List.length_drop]
      rw [hd] at h
      have hdd : ∀ n, (c :: r).drop n = s.drop (i + n) := fun n => by rw [← hd, List.drop_drop]
      by_cases h1 : blank c = true
      · rw [scanL_blank h1, show r = s.drop (i + 1) from hdd 1] at h
        simp only [List.length_cons] at hl
        exact ih _ _ _ _ (by omega) (by omega) (by omega) h
      replace h1 : blank c = false := by simpa using h1
      by_cases h2 : c = 45 ∧ r.head? = some 45
      · rw [scanL_line h1 h2] at h
        have h3 : 1 ≤ (comment (c :: r)).length := by rw [h2.1]; exact comment_pos r
        have h4 := ((c :: r).takeWhile_sublist (· != 10)).length_le
        change (comment (c :: r)).length ≤ _ at h4
        cases hu : utfBad (comment (c :: r)) with
        | some k => rw [hu] at h; cases h
        | none =>
          rw [hu] at h
          simp only [] at h
          rw [hdd] at h
          exact ih _ _ _ _ (by omega) (by omega) (by omega) h
      · rw [scanL_tok h1 h2] at h
        cases hf : first (c :: r) with
        | error e => rw [hf] at h; cases h
        | ok y =>
          obtain ⟨k, t, n⟩ := y
          have hp2 := first_pos hf
          rw [hf] at h
          simp only [] at h
          rw [hdd] at h
          have hk := first_kind hf
          have hq : (if k = 4 then i + 2 else i + t.length) ≤ i + n := by
            split
            · rename_i h4
              subst h4
              have := (first_quote hf).1
              omega
            · rename_i h4
              have := (first_self hf h4).2.1
              omega
          obtain ⟨l', rfl, hl'⟩ := ih (i + n) (if k = 4 then i + 2 else i + t.length) _ _ (by omega) (by omega) hq h
          refine ⟨⟨k, t, i⟩ :: l', by simp, ?_⟩
          cases l' with
          | nil => exact absurd rfl hl'.ne
          | cons u l' =>
            refine ⟨hp, hi, hk, fun h4 => ?_, hl'⟩
            obtain ⟨e1, e2, _⟩ := first_self hf h4
            refine ⟨by show t.length ≤ s.length - i; omega, ?_⟩
            show (s.drop i).take t.length = t
            rw [hd, e2]
            exact e1.symm
/-- LexPlaces' law -/
theorem scan_plc {s : B} {l : List Tok} (h : scan s = .ok l) : Plc s 0 l := by
  by_cases hs : s.length ≤ 4096
  · rw [scan_L hs] at h
    obtain ⟨l', rfl, h2⟩ := scanL_plc s s.length 0 0 [] l (by omega) (Nat.zero_le _) (Nat.le_refl _) (by rw [List.drop_zero]; exact h)
    exact h2
  · rw [scan_big (by omega)] at h
    cases h
theorem scanL_len : ∀ (m i : Nat) (s : B) (acc l : List Tok), s.length ≤ m → scanL i s acc = .ok l → l.length ≤ acc.length + s.length + 1
  | _, i, [], acc, l, _, h => by
    rw [scanL_nil] at h
    cases h
    simp
  | 0, i, _ :: _, acc, l, h, _ => by simp at h
  | m + 1, i, c :: r, acc, l, hm, h => by
    simp only [List.length_cons] at hm ⊢
    by_cases h1 : blank c = true
    · rw [scanL_blank h1] at h
      have := scanL_len m _ r acc l (by omega) h
      omega
    replace h1 : blank c = false := by simpa using h1
    by_cases h2 : c = 45 ∧ r.head? = some 45
    · rw [scanL_line h1 h2] at h
      have h3 : 1 ≤ (comment (c :: r)).length := by rw [h2.1]; exact comment_pos r
      cases hu : utfBad (comment (c :: r)) with
      | some k => rw [hu] at h; cases h
      | none =>
        rw [hu] at h
        have := scanL_len m _ _ acc l (by rw [List.length_drop, List.length_cons]; omega) h
        rw [List.length_drop, List.length_cons] at this
        omega
    · rw [scanL_tok h1 h2] at h
      cases hf : first (c :: r) with
      | error e => rw [hf] at h; cases h
      | ok y =>
        obtain ⟨k, t, n⟩ := y
        have hp := first_pos hf
        rw [hf] at h
        have := scanL_len m _ _ _ l (by rw [List.length_drop, List.length_cons]; omega) h
        rw [List.length_drop, List.length_cons, List.length_append, List.length_singleton] at this
        omega
theorem scan_len {s : B} {l : List Tok} (h : scan s = .ok l) : l.length ≤ 4097 := by
  by_cases hs : s.length ≤ 4096
  · rw [scan_L hs] at h
    have := scanL_len s.length 0 s [] l (Nat.le_refl _) h
    simp only [List.length_nil] at this
    omega
  · rw [scan_big (by omega)] at h
    cases h
/-! ### Blanks around -/
def ahead : B := [32, 45, 45, 32, 97, 32, 114, 101, 109, 97, 114, 107, 32, 195, 169, 10, 9]
def behind : B := [45, 45, 32, 97, 110, 111, 116, 104, 101, 114]
theorem scanL_ahead (x : B) : scanL 0 (ahead ++ x) [] = scanL 17 x [] := by
  have e : ahead ++ x = 32 :: 45 :: 45 :: 32 :: 97 :: 32 :: 114 :: 101 :: 109 :: 97 :: 114 :: 107 :: 32 :: 195 :: 169 :: 10 :: 9 :: x := rfl
  rw [e, scanL_blank (by decide), scanL_line (by decide) ⟨rfl, rfl⟩]
  have ec : comment (45 :: 45 :: 32 :: 97 :: 32 :: 114 :: 101 :: 109 :: 97 :: 114 :: 107 :: 32 :: 195 :: 169 :: 10 :: 9 :: x) = [45, 45, 32, 97, 32, 114, 101, 109, 97, 114, 107, 32, 195, 169] := by
    have : comment ([45, 45, 32, 97, 32, 114, 101, 109, 97, 114, 107, 32, 195, 169] ++ 10 :: 9 :: x) = comment [45, 45, 32, 97, 32, 114, 101, 109, 97, 114, 107, 32, 195, 169] := tw_app (by decide) _ _
    exact this.trans (by decide)
  rw [ec, show utfBad [45, 45, 32, 97, 32, 114, 101, 109, 97, 114, 107, 32, 195, 169] = none by decide]
  show scanL 15 (10 :: 9 :: x) [] = _
  rw [scanL_blank (by decide), scanL_blank (by decide)]
theorem scanL_behind (i : Nat) (acc : List Tok) : scanL i behind acc = .ok (acc ++ [⟨0, [], i + 10⟩]) := by
  unfold behind
  rw [scanL_line (by decide) ⟨rfl, rfl⟩, show comment [45, 45, 32, 97, 110, 111, 116, 104, 101, 114] = [45, 45, 32, 97, 110, 111, 116, 104, 101, 114] by decide, show utfBad [45, 45, 32, 97, 110, 111, 116, 104, 101, 114] = none by decide]
  rfl
/-- LexBlanks' first law -/
theorem scan_blanks {s : B} {l : List Tok} (hs : s.length ≤ 2000) (h : scan s = .ok l) : ∃ l', l = l' ++ [⟨0, [], s.length⟩] ∧ scan (ahead ++ s ++ 10 :: behind) = .ok (l'.map (Tok.on 17) ++ [⟨0, [], s.length + 28⟩]) := by
  have hl : (ahead ++ s ++ 10 :: behind).length ≤ 4096 := by simp [ahead, behind]; omega
  rw [scan_L hl, List.append_assoc, scanL_ahead, scanL_app behind s.length 17 s [] (Nat.le_refl _)]
  rw [scan_L (by omega)] at h
  have h2 := scanL_on 17 [] s.length 0 s [] (Nat.le_refl _)
  simp only [List.map_nil, List.append_nil, Nat.zero_add] at h2
  rw [h2, h]
  have h3 := scan_end (s := s)
  rw [scan_L (by omega), h] at h3
  obtain ⟨l', rfl⟩ := h3
  refine ⟨l', rfl, ?_⟩
  simp only [moved, List.nil_append, List.map_append, List.map_cons, List.map_nil, List.dropLast_concat]
  rw [scanL_behind]
  congr 4
  omega
/-- LexBlanks' second law -/
theorem scan_shows {s : B} {l : List Tok} (hs : s.length ≤ 2000) (h : scan s = .ok l) : ∃ outs, showF [] (l.map fun t => ((t.kind : Int), t.text)) = some outs ∧ ((Lib.join outs [32]).length ≤ 4096 → ∃ k : List Tok, scan (Lib.join outs [32]) = .ok k ∧ k.map (fun t => ((t.kind : Int), t.text)) = l.map fun t => ((t.kind : Int), t.text)) := by
  have h0 := h
  rw [scan_L (by omega)] at h
  obtain ⟨l', j, rfl, h1⟩ := scanL_shows 2000 (by omega) s.length 0 s [] l (Nat.le_refl _) hs (fun x hx => by cases hx) h
  have hsh : showF [] ((l' ++ [(⟨0, [], j⟩ : Tok)]).map fun t : Tok => ((t.kind : Int), t.text)) = some _ := showF_some.2 ⟨rfl, fun x hx hne => by
    obtain ⟨t, ht, rfl⟩ := List.mem_map.1 hx
    rcases List.mem_append.1 ht with ht | ht
    · exact h1 t ht
    · rw [List.mem_singleton.1 ht] at hne
      cases hne⟩
  refine ⟨_, hsh, fun hle => ?_⟩
  obtain ⟨k, h2, h3⟩ := scan_back hsh hle
  refine ⟨k, h2, ?_⟩
  rw [h3]
  simp only [List.map_append, List.map_cons, List.map_nil, List.filter_append]
  have e1 : ((l'.map fun t : Tok => ((t.kind : Int), t.text)).filter fun x => decide (x.1 ≠ 0)) = l'.map fun t : Tok => ((t.kind : Int), t.text) := by
    rw [List.filter_eq_self]
    intro x hx
    obtain ⟨t, ht, rfl⟩ := List.mem_map.1 hx
    obtain ⟨_, _, kn, hk, hf⟩ := show1_iff.1 (h1 t ht)
    have := first_kind hf
    simp only [ne_eq, decide_eq_true_eq]
    omega
  rw [e1]
  simp
theorem text_le (k : Int) (t : B) : t.length ≤ (written k t).length := by
  unfold written quote
  split
  · have := quote_len t
    simp only [List.length_append, List.length_cons, List.length_nil]
    omega
  · exact Nat.le_refl _
theorem showF_small {L : List (Int × B)} {outs : List B} (h : showF [] L = some outs) : ∀ x ∈ L, x.2.length ≤ 4096 := fun x hx => by
  obtain ⟨_, h1⟩ := showF_some.1 h
  by_cases he : isEnd x = true
  · rw [(of_decide_eq_true he).2]
    exact Nat.zero_le _
  · replace he : isEnd x = false := by simpa using he
    have h2 := (show1_iff.1 (h1 x hx he)).2.1
    have h3 := text_le x.1 x.2
    omega
theorem scan_small {s : B} {l : List Tok} (hs : s.length ≤ 2000) (h : scan s = .ok l) : l.length ≤ 2001 := by
  rw [scan_L (by omega)] at h
  have := scanL_len s.length 0 s [] l (Nat.le_refl _) h
  simp only [List.length_nil] at this
  omega
end Go.Lex
