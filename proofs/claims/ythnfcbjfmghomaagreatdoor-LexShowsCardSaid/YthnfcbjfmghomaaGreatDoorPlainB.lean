/- Laws of the scanner, in plain Lean: tokens written and read again; what a scan's tokens are. No condition. -/
import Derived.Test.YthnfcbjfmghomaaGreatDoorPlainA
namespace Go.Lex
/-- the head of what is a token -/
theorem first_head {s : B} {k n : Nat} {t : B} (h : first s = .ok (k, t, n)) : ∃ c r, s = c :: r ∧ blank c = false ∧ ¬ (c = 45 ∧ r.head? = some 45) := by
  cases s with
  | nil => cases h
  | cons c r =>
    refine ⟨c, r, rfl, ?_⟩
    unfold first at h
    simp only [] at h
    split at h
    · rename_i h1
      constructor
      · rw [Bool.eq_false_iff]
        intro hb
        rcases blank_cases hb with rfl | rfl | rfl | rfl <;> revert h1 <;> decide
      · rintro ⟨rfl, _⟩
        revert h1; decide
    split at h
    · rename_i h1
      constructor
      · rw [Bool.eq_false_iff]
        intro hb
        rcases blank_cases hb with rfl | rfl | rfl | rfl <;> revert h1 <;> decide
      · rintro ⟨rfl, _⟩
        revert h1; decide
    split at h
    · rename_i h1
      subst h1
      exact ⟨by decide, fun h => absurd h.1 (by decide)⟩
    split at h
    · rename_i h1
      obtain ⟨c', r', e, h2, h3, _⟩ := sign_head h1.2
      cases r with
      | nil => simp at h1
      | cons d r =>
        simp only [List.take_succ_cons, List.take_zero, List.cons.injEq] at e
        obtain ⟨rfl, rfl⟩ := e
        exact ⟨h2, fun hh => h3 ⟨hh.1, by simpa using hh.2⟩⟩
    split at h
    · rename_i h0 h1
      obtain ⟨c', r', e, h2, h3, _⟩ := sign_head h1
      simp only [List.take_succ_cons, List.take_zero, List.cons.injEq] at e
      obtain ⟨rfl, rfl⟩ := e
      refine ⟨h2, ?_⟩
      rintro ⟨rfl, _⟩
      simp only [List.take_succ_cons, List.take_zero] at h1
      revert h1; decide
    · cases h
theorem tw_idem (p : UInt8 → Bool) : ∀ s : B, (s.takeWhile p).takeWhile p = s.takeWhile p
  | [] => rfl
  | c :: r => by
    rw [List.takeWhile_cons]
    split
    · rename_i h
      rw [List.takeWhile_cons, if_pos h, tw_idem p r]
    · rfl
theorem tw_take (p : UInt8 → Bool) (s : B) : s.takeWhile p = s.take (s.takeWhile p).length := List.prefix_iff_eq_take.1 (List.takeWhile_prefix _)
/-- a token that is no quoted text stands in the source, and is its own first token -/
theorem first_self {s : B} {k n : Nat} {t : B} (h : first s = .ok (k, t, n)) (h4 : k ≠ 4) : t = s.take n ∧ t.length = n ∧ first t = .ok (k, t, n) := by
  cases s with
  | nil => cases h
  | cons c r =>
    unfold first at h
    simp only [] at h
    split at h
    · rename_i h1
      have hr : rest c = true := by unfold rest; rw [h1]; simp
      have e0 := tw_idem rest (c :: r)
      have e1 := tw_take rest (c :: r)
      generalize ht : (c :: r).takeWhile rest = u at h e0 e1
      have hu : ∃ r', u = c :: r' := by rw [← ht, List.takeWhile_cons, if_pos hr]; exact ⟨_, rfl⟩
      obtain ⟨r', rfl⟩ := hu
      have key : first (c :: r') = if isWord (c :: r') then .ok (5, c :: r', (c :: r').length) else if isName (c :: r') then .ok (1, c :: r', (c :: r').length) else if isUpper (c :: r') then .ok (2, c :: r', (c :: r').length) else .error ⟨60, 0⟩ := by
        conv => lhs; unfold first
        simp only []
        rw [if_pos h1, e0]
      rw [← key] at h
      have h' := h
      rw [key] at h'
      have ht' : t = c :: r' ∧ n = (c :: r').length := by
        repeat' split at h'
        all_goals first | (cases h'; done) | (cases h'; exact ⟨rfl, rfl⟩)
      obtain ⟨rfl, rfl⟩ := ht'
      exact ⟨e1, rfl, h⟩
    split at h
    · rename_i h0 h1
      have hr : lump c = true := by unfold lump; rw [h1]; simp
      have e0 := tw_idem lump (c :: r)
      have e1 := tw_take lump (c :: r)
      generalize ht : (c :: r).takeWhile lump = u at h e0 e1
      have hu : ∃ r', u = c :: r' := by rw [← ht, List.takeWhile_cons, if_pos hr]; exact ⟨_, rfl⟩
      obtain ⟨r', rfl⟩ := hu
      have key : first (c :: r') = if number (c :: r') then .ok (3, c :: r', (c :: r').length) else if verOk (c :: r') then .ok (7, c :: r', (c :: r').length) else .error ⟨60, 0⟩ := by
        conv => lhs; unfold first
        simp only []
        rw [if_neg h0, if_pos h1, e0]
      rw [← key] at h
      have h' := h
      rw [key] at h'
      have ht' : t = c :: r' ∧ n = (c :: r').length := by
        repeat' split at h'
        all_goals first | (cases h'; done) | (cases h'; exact ⟨rfl, rfl⟩)
      obtain ⟨rfl, rfl⟩ := ht'
      exact ⟨e1, rfl, h⟩
    split at h
    · split at h
      · cases h; exact absurd rfl h4
      · cases h
    split at h
    · rename_i h0 h1 h2 h3
      cases h
      cases r with
      | nil => simp at h3
      | cons d r =>
        refine ⟨rfl, rfl, ?_⟩
        simp only [List.take_succ_cons, List.take_zero] at h3 ⊢
        unfold first
        simp only []
        rw [if_neg h0, if_neg h1, if_neg h2, if_pos ⟨by simp, h3.2⟩]
        rfl
    split at h
    · rename_i h0 h1 h2 h3 h5
      cases h
      refine ⟨rfl, rfl, ?_⟩
      simp only [List.take_succ_cons, List.take_zero] at h5 ⊢
      unfold first
      simp only []
      rw [if_neg h0, if_neg h1, if_neg h2, if_neg (by simp)]
      exact if_pos h5
    · cases h
theorem first_kind {s : B} {k n : Nat} {t : B} (h : first s = .ok (k, t, n)) : k ≠ 0 := by
  cases s with
  | nil => cases h
  | cons c r =>
    unfold first at h
    simp only [] at h
    repeat' split at h
    all_goals first | (cases h; done) | (cases h; decide)
/-- a quoted text that was read is read again as it is written -/
theorem first_quote {s : B} {n : Nat} {t : B} (h : first s = .ok (4, t, n)) : t.length + 2 ≤ n ∧ first (quote t) = .ok (4, t, (quote t).length) := by
  cases s with
  | nil => cases h
  | cons c r =>
    have hc : c = 34 := by
      unfold first at h
      simp only [] at h
      repeat' split at h
      all_goals first | (cases h; done) | skip
      all_goals first | assumption | skip
    subst hc
    rw [first_quoted] at h
    cases hq : quotedL 1 r [] with
    | error e => rw [hq] at h; cases h
    | ok y =>
      obtain ⟨t', n'⟩ := y
      rw [hq] at h
      cases h
      obtain ⟨u, e, hl, hb⟩ := quotedL_back [] r.length 1 r [] _ _ (Nat.le_refl _) hq
      rw [List.nil_append] at e
      subst e
      refine ⟨by omega, ?_⟩
      unfold quote
      rw [List.cons_append, List.cons_append, List.nil_append, first_quoted, hb]
      simp only [List.nil_append, List.length_cons, List.length_append, List.length_nil]
      congr 3
      omega
/-- a token written alone is a source of its own -/
theorem first_written {s : B} {k n : Nat} {t : B} (h : first s = .ok (k, t, n)) : first (written k t) = .ok (k, t, (written k t).length) ∧ (written k t).length ≤ 2 * n + 2 := by
  unfold written
  by_cases h4 : k = 4
  · subst h4
    rw [if_pos (by rfl)]
    obtain ⟨h1, h2⟩ := first_quote h
    refine ⟨h2, ?_⟩
    have := written_len 4 t
    unfold written at this
    rw [if_pos rfl] at this
    omega
  · rw [if_neg (by omega)]
    obtain ⟨h1, h2, h3⟩ := first_self h h4
    exact ⟨by rw [h2]; exact h3, by omega⟩
theorem scan_one {w : B} {k : Nat} {t : B} (h : first w = .ok (k, t, w.length)) (hl : w.length ≤ 4096) : scan w = .ok [⟨k, t, 0⟩, ⟨0, [], w.length⟩] := by
  obtain ⟨c, r, rfl, h1, h2⟩ := first_head h
  rw [scan_L hl, scanL_tok h1 h2, h]
  simp only [List.drop_length]
  rw [scanL_nil]
  simp
/-- a token that is shown -/
theorem show1_iff {k : Int} {t : B} {w : B} : show1 k t = some w ↔ w = written k t ∧ w.length ≤ 4096 ∧ ∃ kn : Nat, (kn : Int) = k ∧ first w = .ok (kn, t, w.length) := by
  constructor
  · intro h
    have hw : (written k t).length ≤ 4096 := by
      by_cases hl : (written k t).length ≤ 4096
      · exact hl
      · unfold show1 at h
        rw [scan_big (by omega)] at h
        cases h
    cases hs : scan (written k t) with
    | error e => unfold show1 at h; rw [hs] at h; cases h
    | ok l =>
      by_cases h2 : l.length = 2
      · match l, h2 with
        | [a, z], _ =>
          rw [show1_two hs] at h
          split at h
          · rename_i hh
            cases h
            obtain ⟨e1, e2, e3, e4, e5⟩ := hh
            rw [scan_L hw] at hs
            have hne : ∃ c r, written k t = c :: r := by
              cases hwr : written k t with
              | nil => exact absurd hwr e4
              | cons c r => exact ⟨c, r, rfl⟩
            obtain ⟨c, r, hcr⟩ := hne
            refine ⟨rfl, hw, a.kind, e1, ?_⟩
            rw [hcr] at hs
            -- the first token stands at 0
            have hpl : ∀ (m i : Nat) (s : B) (l : List Tok), s.length ≤ m → scanL i s [] = .ok l → ∀ x ∈ l, i ≤ x.at' := by
              intro m i s l hm hq x hx
              have := scanL_on i [] m 0 s [] hm
              simp only [List.map_nil, List.append_nil, Nat.zero_add] at this
              rw [hq] at this
              cases hz : scanL 0 s [] with
              | error f => rw [hz] at this; cases this
              | ok l' =>
                rw [hz] at this
                simp only [moved, List.nil_append, Except.ok.injEq] at this
                subst this
                obtain ⟨y, _, rfl⟩ := List.mem_map.1 hx
                simp [Tok.on]
            have hmem : a ∈ [a, z] := by simp
            by_cases hb : blank c = true
            · rw [scanL_blank hb] at hs
              have := hpl _ _ _ _ (Nat.le_refl _) hs a hmem
              omega
            replace hb : blank c = false := by simpa using hb
            by_cases hln : c = 45 ∧ r.head? = some 45
            · rw [scanL_line hb hln] at hs
              have h3 : 1 ≤ (comment (c :: r)).length := by rw [hln.1]; exact comment_pos r
              cases hu : utfBad (comment (c :: r)) with
              | some q => rw [hu] at hs; cases hs
              | none =>
                rw [hu] at hs
                have := hpl _ _ _ _ (Nat.le_refl _) hs a hmem
                omega
            rw [scanL_tok hb hln] at hs
            cases hf : first (c :: r) with
            | error f => rw [hf] at hs; cases hs
            | ok y =>
              obtain ⟨k', t', n'⟩ := y
              rw [hf] at hs
              simp only [List.nil_append] at hs
              have hp := first_pos hf
              have hend := scanL_end ((c :: r).drop n').length (0 + n') ((c :: r).drop n') [⟨k', t', 0⟩] (Nat.le_refl _)
              rw [hs] at hend
              obtain ⟨l', hl'⟩ := hend
              have ha : a = ⟨k', t', 0⟩ := by
                rw [List.append_assoc] at hl'
                simp only [List.cons_append, List.nil_append, List.cons.injEq] at hl'
                exact hl'.1
              subst ha
              simp only at e1 e2
              subst e2
              rw [hcr, hf]
              have hn : n' = (c :: r).length := by
                by_cases h4 : k' = 4
                · subst h4
                  have hq := (first_quote hf).2
                  have hwq : c :: r = quote t' := by
                    rw [← hcr]
                    unfold written
                    rw [if_pos (by rw [← e1]; rfl)]
                  rw [hwq] at hf ⊢
                  rw [hq] at hf
                  cases hf
                  rfl
                · have := (first_self hf h4).2.1
                  have h5 := e5 (by omega)
                  rw [hcr] at h5
                  change t' = _ at h5
                  rw [h5] at this
                  exact this.symm
              exact hn ▸ rfl
          · cases h
      · rw [show1_not hs h2] at h
        cases h
  · rintro ⟨rfl, hl, kn, rfl, hf⟩
    rw [show1_two (scan_one hf hl), if_pos]
    refine ⟨rfl, rfl, rfl, ?_, fun h => ?_⟩
    · intro h0
      rw [h0] at hf
      cases hf
    · unfold written
      rw [if_neg h]
/-! ### Rows of tokens -/
/-- the tokens that are written -/
def isEnd (x : Int × B) : Bool := decide (x.1 = 0 ∧ x.2 = [])
theorem showF_some : ∀ {L : List (Int × B)} {outs outs' : List B}, showF outs L = some outs' ↔ outs' = outs ++ (L.filter (!isEnd ·)).map (fun x => written x.1 x.2) ∧ ∀ x ∈ L, isEnd x = false → show1 x.1 x.2 = some (written x.1 x.2)
  | [], outs, outs' => by
    unfold showF
    rw [Option.some.injEq]
    exact ⟨fun h => ⟨by rw [← h]; simp, fun x hx => (by cases hx)⟩, fun h => by rw [h.1]; simp⟩
  | (k, t) :: L, outs, outs' => by
    unfold showF
    by_cases he : k = 0 ∧ t = []
    · have h1 : isEnd (k, t) = true := decide_eq_true he
      rw [if_pos he, showF_some, List.filter_cons, if_neg (by simp [h1])]
      refine and_congr Iff.rfl ⟨fun h x hx hne => ?_, fun h x hx => h x (List.mem_cons_of_mem _ hx)⟩
      rcases List.mem_cons.1 hx with rfl | hx
      · rw [h1] at hne; cases hne
      · exact h x hx hne
    · have h1 : isEnd (k, t) = false := decide_eq_false he
      rw [if_neg he]
      cases hs : show1 k t with
      | none =>
        refine Iff.intro (fun h => by cases h) (fun h => ?_)
        have := h.2 _ List.mem_cons_self h1
        rw [hs] at this
        cases this
      | some w =>
        have hw := (show1_iff.1 hs).1
        subst hw
        simp only []
        rw [showF_some, List.filter_cons, if_pos (by simp [h1]), List.map_cons, List.append_assoc]
        refine and_congr Iff.rfl ⟨fun h x hx hne => ?_, fun h x hx => h x (List.mem_cons_of_mem _ hx)⟩
        rcases List.mem_cons.1 hx with rfl | hx
        · exact hs
        · exact h x hx hne
/-- the tokens of what is written -/
theorem scan_join : ∀ (L : List (Int × B)) (i : Nat) (acc : List Tok), (∀ x ∈ L, show1 x.1 x.2 = some (written x.1 x.2)) → ∃ l : List Tok, scanL i (Lib.join (L.map fun x => written x.1 x.2) [32]) acc = .ok (acc ++ l) ∧ l.map (fun t => ((t.kind : Int), t.text)) = L ++ [(0, [])]
  | [], i, acc, _ => ⟨[⟨0, [], i⟩], by rw [List.map_nil, Lib.join_nil, scanL_nil], rfl⟩
  | [(k, t)], i, acc, h => by
    obtain ⟨_, hl, kn, hk, hf⟩ := show1_iff.1 (h _ List.mem_cons_self)
    subst hk
    obtain ⟨c, r, e, h1, h2⟩ := first_head hf
    refine ⟨[⟨kn, t, i⟩, ⟨0, [], i + (written kn t).length⟩], ?_, rfl⟩
    rw [List.map_cons, List.map_nil, Lib.join_one]
    simp only [] at e hf ⊢
    rw [e] at hf ⊢
    rw [scanL_tok h1 h2, hf]
    simp only [List.drop_length]
    rw [scanL_nil]
    simp
  | (k, t) :: y :: L, i, acc, h => by
    obtain ⟨_, hl, kn, hk, hf⟩ := show1_iff.1 (h _ List.mem_cons_self)
    subst hk
    simp only [] at hf
    obtain ⟨c, r, e, h1, h2⟩ := first_head hf
    obtain ⟨l, hq, hm⟩ := scan_join (y :: L) (i + (written kn t).length + 1) (acc ++ [⟨kn, t, i⟩]) (fun x hx => h x (List.mem_cons_of_mem _ hx))
    refine ⟨⟨kn, t, i⟩ :: l, ?_, by rw [List.map_cons, hm]; rfl⟩
    have ej : Lib.join (((((kn : Int), t) :: y :: L)).map fun x => written x.1 x.2) [32] = written kn t ++ 32 :: Lib.join ((y :: L).map fun x => written x.1 x.2) [32] := by
      rw [List.map_cons, List.map_cons, Lib.join_cons, Lib.join_cons, Lib.joinTail, Lib.joinTail]
      simp
    rw [ej]
    have hfa := first_app (.inl rfl) (Lib.join ((y :: L).map fun x => written x.1 x.2) [32]) (s := written kn t) (by rw [e]; simp) (.inr ⟨_, hf⟩)
    rw [hf] at hfa
    rw [e] at hfa ⊢
    rw [List.cons_append] at hfa ⊢
    rw [scanL_tok h1 (fun hh => h2 ⟨hh.1, (line_app (.inl rfl) _).1 hh.2⟩), hfa]
    simp only []
    rw [← List.cons_append, List.drop_left, scanL_blank (by decide), ← e, hq]
    simp
/-- LexBack's law -/
theorem scan_back {L : List (Int × B)} {outs : List B} (h : showF [] L = some outs) (hl : (Lib.join outs [32]).length ≤ 4096) :
    ∃ l : List Tok, scan (Lib.join outs [32]) = .ok l ∧ l.map (fun t => ((t.kind : Int), t.text)) = L.filter (fun x => decide (x.1 ≠ 0)) ++ [(0, [])] := by
  obtain ⟨e, h1⟩ := showF_some.1 h
  rw [List.nil_append] at e
  have hfil : L.filter (!isEnd ·) = L.filter (fun x => decide (x.1 ≠ 0)) := List.filter_congr fun x hx => by
    by_cases he : isEnd x = true
    · have := of_decide_eq_true he
      rw [he]
      simp [this.1]
    · replace he : isEnd x = false := by simpa using he
      obtain ⟨_, _, kn, hk, hf⟩ := show1_iff.1 (h1 x hx he)
      have := first_kind hf
      rw [he]
      have : x.1 ≠ 0 := by omega
      simp [this]
  obtain ⟨l, h2, h3⟩ := scan_join (L.filter (!isEnd ·)) 0 [] (fun x hx => h1 x (List.mem_filter.1 hx).1 (by simpa using (List.mem_filter.1 hx).2))
  rw [e] at hl ⊢
  rw [scan_L hl]
  exact ⟨l, h2, by rw [h3, hfil]⟩
/-- the tokens of a scan are shown -/
theorem scanL_shows (M : Nat) (hM : 2 * M + 2 ≤ 4096) : ∀ (m i : Nat) (s : B) (acc l : List Tok), s.length ≤ m → m ≤ M → (∀ x ∈ acc, show1 x.kind x.text = some (written x.kind x.text)) → scanL i s acc = .ok l →
    ∃ l' j, l = l' ++ [⟨0, [], j⟩] ∧ ∀ x ∈ l', show1 x.kind x.text = some (written x.kind x.text)
  | _, i, [], acc, l, _, _, hacc, h => by
    rw [scanL_nil] at h
    cases h
    exact ⟨acc, i, rfl, hacc⟩
  | 0, i, _ :: _, acc, l, h, _, _, _ => by simp at h
  | m + 1, i, c :: r, acc, l, hm, hM', hacc, h => by
    simp only [List.length_cons] at hm
    by_cases h1 : blank c = true
    · rw [scanL_blank h1] at h
      exact scanL_shows M hM m _ r acc l (by omega) (by omega) hacc h
    replace h1 : blank c = false := by simpa using h1
    by_cases h2 : c = 45 ∧ r.head? = some 45
    · rw [scanL_line h1 h2] at h
      have h3 : 1 ≤ (comment (c :: r)).length := by rw [h2.1]; exact comment_pos r
      cases hu : utfBad (comment (c :: r)) with
      | some k => rw [hu] at h; cases h
      | none =>
        rw [hu] at h
        exact scanL_shows M hM m _ _ acc l (by rw [List.length_drop, List.length_cons]; omega) (by omega) hacc h
    · rw [scanL_tok h1 h2] at h
      cases hf : first (c :: r) with
      | error e => rw [hf] at h; cases h
      | ok y =>
        obtain ⟨k, t, n⟩ := y
        have hp := first_pos hf
        simp only [List.length_cons] at hp
        rw [hf] at h
        refine scanL_shows M hM m _ _ _ l (by rw [List.length_drop, List.length_cons]; omega) (by omega) (fun x hx => ?_) h
        rcases List.mem_append.1 hx with hx | hx
        · exact hacc x hx
        · rw [List.mem_singleton.1 hx]
          obtain ⟨h5, h6⟩ := first_written hf
          exact show1_iff.2 ⟨rfl, by show (written (k : Int) t).length ≤ 4096; omega, k, rfl, h5⟩
end Go.Lex
