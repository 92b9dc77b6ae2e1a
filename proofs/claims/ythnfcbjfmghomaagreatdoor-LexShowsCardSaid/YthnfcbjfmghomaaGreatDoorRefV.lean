/- The document's answer for versions, in plain Lean. No condition. -/
import Derived.Test.YthnfcbjfmghomaaGreatDoorParts
namespace Go.Lex
/-- a number in decimal -/
def dec (n : Nat) : B := if n < 10 then [UInt8.ofNat (48 + n)] else dec (n / 10) ++ [UInt8.ofNat (48 + n % 10)]
termination_by n
decreasing_by omega
def sat (n : Nat) (c : UInt8) : Nat := if n ≤ 999999 then 10 * n + (c.toNat - 48) else n
def refCore : B → Nat → List Nat → Option (List Nat)
  | [], _, ns => some ns
  | c :: r, k, ns => if c = 46 then (if 2 < k + 1 then none else refCore r (k + 1) ns) else if digit c then refCore r k (ns.set k (sat (ns.getD k 0) c)) else none
def tailV (pre : B) : B := if pre = [] then [] else 45 :: pre
def shownV (ns : List Nat) (pre : B) : B := dec (ns.getD 0 0) ++ 46 :: (dec (ns.getD 1 0) ++ 46 :: (dec (ns.getD 2 0) ++ tailV pre))
def checkV (ns : List Nat) (pre : B) : Bool := decide (ns.getD 0 0 ≤ 999999 ∧ ns.getD 1 0 ≤ 999999 ∧ ns.getD 2 0 ≤ 999999 ∧ pre.length ≤ 24) && (pre.isEmpty || (parts pre).all preOk)
def coreV (s : B) : B := s.takeWhile (· != 45)
def preV (s : B) : B := (s.drop (coreV s).length).tail
def refVer (s : B) : Bool := decide (s.length ≤ 60) && match refCore (coreV s) 0 [0, 0, 0] with
  | none => false
  | some ns => checkV ns (preV s) && (shownV ns (preV s) == s)
/-! ### Numbers -/
theorem dec_lt {n : Nat} (h : n < 10) : dec n = [UInt8.ofNat (48 + n)] := by rw [dec, if_pos h]
theorem dec_ge {n : Nat} (h : ¬ n < 10) : dec n = dec (n / 10) ++ [UInt8.ofNat (48 + n % 10)] := by rw [dec, if_neg h]
theorem of_dig {d : Nat} (h : d < 10) : (UInt8.ofNat (48 + d)).toNat = 48 + d := by rw [UInt8.toNat_ofNat']; omega
theorem dig_digit {d : Nat} (h : d < 10) : digit (UInt8.ofNat (48 + d)) = true := by
  unfold digit
  rw [of_dig h]
  exact decide_eq_true (by omega)
theorem dec_ne (n : Nat) : dec n ≠ [] := by
  by_cases h : n < 10
  · rw [dec_lt h]; simp
  · rw [dec_ge h]; simp
theorem dec_all : ∀ (m n : Nat), n ≤ m → (dec n).all digit = true
  | m, n, h => by
    by_cases h1 : n < 10
    · rw [dec_lt h1]
      simp only [List.all_cons, List.all_nil, Bool.and_true]
      exact dig_digit h1
    · rw [dec_ge h1, List.all_append]
      cases m with
      | zero => omega
      | succ m =>
        rw [dec_all m (n / 10) (by omega)]
        simp only [List.all_cons, List.all_nil, Bool.and_true, Bool.true_and]
        exact dig_digit (show n % 10 < 10 by omega)
theorem dec_len : ∀ (k n : Nat), n < 10 ^ (k + 1) → (dec n).length ≤ k + 1
  | 0, n, h => by rw [dec_lt (by simpa using h)]; simp
  | k + 1, n, h => by
    by_cases h1 : n < 10
    · rw [dec_lt h1]; simp
    · rw [dec_ge h1, List.length_append, List.length_singleton]
      have := dec_len k (n / 10) (by rw [Nat.pow_succ] at h; omega)
      omega
theorem dec_head : ∀ (m n : Nat), n ≤ m → 1 ≤ n → (dec n).head? ≠ some 48
  | m, n, h, hn => by
    by_cases h1 : n < 10
    · rw [dec_lt h1]
      intro hh
      simp only [List.head?_cons, Option.some.injEq] at hh
      have := congrArg UInt8.toNat hh
      rw [of_dig h1] at this
      have e : (48 : UInt8).toNat = 48 := rfl
      omega
    · rw [dec_ge h1]
      cases m with
      | zero => omega
      | succ m =>
        have := dec_head m (n / 10) (by omega) (by omega)
        cases hd : dec (n / 10) with
        | nil => exact absurd hd (dec_ne _)
        | cons c r =>
          rw [hd] at this
          simpa using this
theorem dec_numOk {n : Nat} (h : n ≤ 999999) : numOk (dec n) = true := by
  unfold numOk digits
  rw [dec_all n n (Nat.le_refl _)]
  have h1 := dec_len 5 n (by omega)
  have h2 : (dec n).isEmpty = false := by
    cases hd : dec n with
    | nil => exact absurd hd (dec_ne _)
    | cons c r => rfl
  rw [h2, decide_eq_true h1]
  by_cases h3 : n < 10
  · rw [dec_lt h3]; simp
  · have := dec_head n n (Nat.le_refl _) (by omega)
    simp [this]
theorem sat_bound : ∀ (p : B) (v k : Nat), p.all digit = true → v < 10 ^ k → k + p.length ≤ 6 → p.foldl sat v < 10 ^ (k + p.length)
  | [], v, k, _, h, _ => by simpa using h
  | c :: r, v, k, hp, h, hk => by
    simp only [List.all_cons, Bool.and_eq_true] at hp
    have hc := of_decide_eq_true hp.1
    simp only [List.length_cons] at hk ⊢
    rw [List.foldl_cons]
    have h6 : 10 ^ k ≤ 10 ^ 5 := Nat.pow_le_pow_right (by omega) (by omega)
    have e : sat v c = 10 * v + (c.toNat - 48) := by unfold sat; rw [if_pos (by omega)]
    have := sat_bound r (sat v c) (k + 1) hp.2 (by rw [e, Nat.pow_succ]; omega) (by omega)
    rw [show k + (r.length + 1) = k + 1 + r.length by omega]
    exact this
/-- a number's text is the text of its value -/
theorem dec_of : ∀ (m : Nat) (p : B), p.length ≤ m → m ≤ 6 → p ≠ [] → p.all digit = true → (p.length ≤ 1 ∨ p.head? ≠ some 48) → dec (p.foldl sat 0) = p
  | m, p, hm, h6, hne, hp, hz => by
    obtain ⟨q, c, rfl⟩ : ∃ q c, p = q ++ [c] := ⟨p.dropLast, p.getLast hne, (List.dropLast_concat_getLast hne).symm⟩
    rw [List.length_append, List.length_singleton] at hm hz
    rw [List.all_append, Bool.and_eq_true] at hp
    have hc : digit c = true := by simpa using hp.2
    have hc' := of_decide_eq_true hc
    have ec : ∀ d, 48 + d = c.toNat → UInt8.ofNat (48 + d) = c := fun d hd => by rw [hd]; simp
    have hb := sat_bound q 0 0 hp.1 (by simp) (by omega)
    rw [Nat.zero_add] at hb
    have hb6 : 10 ^ q.length ≤ 10 ^ 5 := Nat.pow_le_pow_right (by omega) (by omega)
    rw [List.foldl_append, List.foldl_cons, List.foldl_nil]
    have e : sat (q.foldl sat 0) c = 10 * q.foldl sat 0 + (c.toNat - 48) := if_pos (by omega)
    rw [e]
    cases q with
    | nil =>
      simp only [List.foldl_nil, Nat.mul_zero, Nat.zero_add, List.nil_append]
      rw [dec_lt (by omega), ec _ (by omega)]
    | cons a q =>
      cases m with
      | zero => simp at hm
      | succ m =>
        have hz' : (a :: q).head? ≠ some 48 := by
          rcases hz with hz | hz
          · simp at hz
          · simpa using hz
        have ih := dec_of m (a :: q) (by omega) (by omega) (by simp) hp.1 (.inr hz')
        have hv : (a :: q).foldl sat 0 ≠ 0 := by
          intro hv
          rw [hv, dec_lt (by omega)] at ih
          rw [← ih] at hz'
          exact hz' rfl
        generalize (a :: q).foldl sat 0 = v at *
        rw [dec_ge (by omega), show (10 * v + (c.toNat - 48)) / 10 = v by omega, ih, ec _ (by omega)]
/-! ### Parts -/
theorem parts_step {c : UInt8} {r p : B} {ps : List B} (h : c ≠ 46) (hp : parts r = p :: ps) : parts (c :: r) = (c :: p) :: ps := by
  conv => lhs; unfold parts
  rw [if_neg h, hp]
theorem parts_dot (r : B) : parts (46 :: r) = [] :: parts r := by
  conv => lhs; unfold parts
  rw [if_pos rfl]
theorem parts_one : ∀ {a : B}, (∀ c ∈ a, c ≠ 46) → parts a = [a]
  | [], _ => rfl
  | c :: _, h => parts_step (h c List.mem_cons_self) (parts_one fun x hx => h x (List.mem_cons_of_mem _ hx))
theorem parts_app (r : B) : ∀ {a : B}, (∀ c ∈ a, c ≠ 46) → parts (a ++ 46 :: r) = a :: parts r
  | [], _ => parts_dot r
  | c :: _, h => parts_step (h c List.mem_cons_self) (parts_app r fun x hx => h x (List.mem_cons_of_mem _ hx))
theorem parts_inv : ∀ (s p : B) (ps : List B), parts s = p :: ps → (ps = [] → s = p) ∧ (∀ q qs, ps = q :: qs → ∃ r, s = p ++ 46 :: r ∧ parts r = q :: qs)
  | [], p, ps, h => by
    simp only [parts, List.cons.injEq] at h
    obtain ⟨rfl, rfl⟩ := h
    exact ⟨fun _ => rfl, fun q qs h => by cases h⟩
  | c :: r, p, ps, h => by
    by_cases hc : c = 46
    · subst hc
      rw [parts_dot] at h
      cases h
      exact ⟨fun h => absurd h (parts_ne r), fun q qs h => ⟨r, rfl, h⟩⟩
    · cases hr : parts r with
      | nil => exact absurd hr (parts_ne r)
      | cons p' ps' =>
        rw [parts_step hc hr] at h
        cases h
        obtain ⟨h1, h2⟩ := parts_inv r p' _ hr
        refine ⟨fun h => by rw [h1 h], fun q qs h => ?_⟩
        obtain ⟨r', e, h3⟩ := h2 q qs h
        exact ⟨r', by rw [e]; rfl, h3⟩
theorem parts_three {s a b c : B} (h : parts s = [a, b, c]) : s = a ++ 46 :: (b ++ 46 :: c) := by
  obtain ⟨r, e1, h1⟩ := (parts_inv s a _ h).2 b [c] rfl
  obtain ⟨r', e2, h2⟩ := (parts_inv r b _ h1).2 c [] rfl
  rw [e1, e2, (parts_inv r' c _ h2).1 rfl]
theorem digits_dot {p : B} (h : p.all digit = true) : ∀ c ∈ p, c ≠ 46 := fun c hc => by
  rintro rfl
  have := List.all_eq_true.1 h _ hc
  revert this
  decide
theorem refCore_run : ∀ (p r : B) (k : Nat) (ns : List Nat), p.all digit = true → k < ns.length → refCore (p ++ r) k ns = refCore r k (ns.set k (p.foldl sat (ns.getD k 0)))
  | [], r, k, ns, _, hk => by
    have : ns.set k (ns.getD k 0) = ns := by
      rw [List.getD_eq_getElem?_getD, List.getElem?_eq_getElem hk]
      exact List.set_getElem_self hk
    rw [List.foldl_nil, this]
    rfl
  | c :: p, r, k, ns, hp, hk => by
    have hne := digits_dot hp c List.mem_cons_self
    simp only [List.all_cons, Bool.and_eq_true] at hp
    rw [List.cons_append]
    conv => lhs; unfold refCore
    rw [if_neg hne, if_pos hp.1, refCore_run p r k _ hp.2 (by rw [List.length_set]; exact hk)]
    rw [List.set_set, List.foldl_cons, List.getD_eq_getElem?_getD, List.getElem?_set_self hk]
    rfl
theorem numOk_iff {p : B} (h : numOk p = true) : p ≠ [] ∧ p.all digit = true ∧ p.length ≤ 6 ∧ (p.length ≤ 1 ∨ p.head? ≠ some 48) := by
  unfold numOk digits at h
  simp only [Bool.and_eq_true, Bool.or_eq_true, decide_eq_true_eq, Bool.not_eq_true', bne_iff_ne] at h
  refine ⟨?_, h.1.1.2, h.1.2, h.2⟩
  rintro rfl
  simp at h
theorem tw_rest (s : B) : s = coreV s ++ s.drop (coreV s).length ∧ (s.drop (coreV s).length = [] ∨ ∃ pre, s.drop (coreV s).length = 45 :: pre) := by
  unfold coreV
  induction s with
  | nil => exact ⟨rfl, .inl rfl⟩
  | cons c r ih =>
    rw [List.takeWhile_cons]
    by_cases h : c = 45
    · subst h
      exact ⟨rfl, .inr ⟨r, rfl⟩⟩
    · have : (c != 45) = true := by simpa using h
      rw [if_pos this]
      simp only [List.length_cons, List.drop_succ_cons, List.cons_append]
      exact ⟨by rw [← ih.1], ih.2⟩
theorem tw_all {f : UInt8 → Bool} : ∀ {p : B}, (∀ c ∈ p, f c = true) → p.takeWhile f = p
  | [], _ => rfl
  | c :: r, h => by rw [List.takeWhile_cons, if_pos (h c List.mem_cons_self), tw_all fun x hx => h x (List.mem_cons_of_mem _ hx)]
theorem core_of {p : B} (h : ∀ c ∈ p, c ≠ 45) (pre : B) : coreV (p ++ tailV pre) = p ∧ (p ++ tailV pre).drop p.length = tailV pre := by
  refine ⟨?_, List.drop_left⟩
  unfold coreV
  have hp : p.takeWhile (· != 45) = p := tw_all fun c hc => by simpa using h c hc
  rw [List.takeWhile_append, hp, if_pos rfl]
  unfold tailV
  split <;> simp
theorem verOk_core (s : B) : verOk s = (decide ((parts (coreV s)).length = 3) && (parts (coreV s)).all numOk && match s.drop (coreV s).length with
    | [] => true
    | _ :: pre => !pre.isEmpty && decide (pre.length ≤ 24) && (parts pre).all preOk) := rfl
/-- the document's versions are those -/
theorem refVer_eq (s : B) : refVer s = verOk s := by
  rw [Bool.eq_iff_iff]
  constructor
  · intro h
    unfold refVer at h
    simp only [Bool.and_eq_true, decide_eq_true_eq] at h
    obtain ⟨h60, h⟩ := h
    cases hc : refCore (coreV s) 0 [0, 0, 0] with
    | none => rw [hc] at h; cases h
    | some ns =>
      rw [hc] at h
      simp only [Bool.and_eq_true, beq_iff_eq] at h
      obtain ⟨hck, hsh⟩ := h
      unfold checkV at hck
      simp only [Bool.and_eq_true, decide_eq_true_eq, Bool.or_eq_true] at hck
      obtain ⟨⟨h0, h1, h2, h24⟩, hpre⟩ := hck
      generalize preV s = pre at *
      unfold shownV at hsh
      generalize ns.getD 0 0 = n0 at *
      generalize ns.getD 1 0 = n1 at *
      generalize ns.getD 2 0 = n2 at *
      have d0 := dec_all n0 n0 (Nat.le_refl _)
      have d1 := dec_all n1 n1 (Nat.le_refl _)
      have d2 := dec_all n2 n2 (Nat.le_refl _)
      have n45 : ∀ {p : B}, p.all digit = true → ∀ c ∈ p, c ≠ 45 := fun h c hc => by
        rintro rfl
        have := List.all_eq_true.1 h _ hc
        revert this
        decide
      have eP : s = (dec n0 ++ 46 :: (dec n1 ++ 46 :: dec n2)) ++ tailV pre := by rw [← hsh]; simp
      have hP : ∀ c ∈ (dec n0 ++ 46 :: (dec n1 ++ 46 :: dec n2)), c ≠ 45 := fun c hc => by
        simp only [List.mem_append, List.mem_cons] at hc
        rcases hc with hc | rfl | hc | rfl | hc
        · exact n45 d0 c hc
        · decide
        · exact n45 d1 c hc
        · decide
        · exact n45 d2 c hc
      obtain ⟨e1, e2⟩ := core_of hP pre
      rw [← eP] at e1 e2
      rw [verOk_core, e1, e2, parts_app _ (digits_dot d0), parts_app _ (digits_dot d1), parts_one (digits_dot d2)]
      simp only [List.length_cons, List.length_nil, List.all_cons, List.all_nil, dec_numOk h0, dec_numOk h1, dec_numOk h2]
      cases pre with
      | nil => rfl
      | cons x r =>
        have hall : (parts (x :: r)).all preOk = true := by simpa using hpre
        show (_ && (!(x :: r).isEmpty && decide ((x :: r).length ≤ 24) && (parts (x :: r)).all preOk)) = true
        rw [decide_eq_true h24, hall]
        rfl
  · intro h
    rw [verOk_core] at h
    simp only [Bool.and_eq_true, decide_eq_true_eq] at h
    obtain ⟨⟨h3, hall⟩, htl⟩ := h
    obtain ⟨es, htc⟩ := tw_rest s
    have hex : ∃ a b c, parts (coreV s) = [a, b, c] := by
      match hp : parts (coreV s), h3 with
      | [a, b, c], _ => exact ⟨a, b, c, rfl⟩
    obtain ⟨a, b, c, hp⟩ := hex
    rw [hp] at hall
    simp only [List.all_cons, List.all_nil, Bool.and_true, Bool.and_eq_true] at hall
    obtain ⟨na, nb, nc⟩ := hall
    have ec := parts_three hp
    obtain ⟨a0, a1, a2, a3⟩ := numOk_iff na
    obtain ⟨b0, b1, b2, b3⟩ := numOk_iff nb
    obtain ⟨c0, c1, c2, c3⟩ := numOk_iff nc
    have hrun : refCore (coreV s) 0 [0, 0, 0] = some [a.foldl sat 0, b.foldl sat 0, c.foldl sat 0] := by
      rw [ec, refCore_run _ _ _ _ a1 (by simp)]
      conv => lhs; unfold refCore
      rw [if_pos rfl, if_neg (by omega), refCore_run _ _ _ _ b1 (by simp)]
      conv => lhs; unfold refCore
      rw [if_pos rfl, if_neg (by omega)]
      have := refCore_run c [] 2 [a.foldl sat 0, b.foldl sat 0, 0] c1 (by simp)
      rw [List.append_nil] at this
      exact this
    have hbnd : ∀ {p : B}, p.all digit = true → p.length ≤ 6 → p.foldl sat 0 ≤ 999999 := fun {p} h1 h2 => by
      have := sat_bound p 0 0 h1 (by simp) (by omega)
      rw [Nat.zero_add] at this
      have h6 : 10 ^ p.length ≤ 10 ^ 6 := Nat.pow_le_pow_right (by omega) h2
      omega
    have hlen : (coreV s).length ≤ 20 := by
      rw [ec]
      simp only [List.length_append, List.length_cons]
      omega
    have hslen : s.length = (coreV s).length + (s.drop (coreV s).length).length := by
      conv => lhs; rw [es]
      rw [List.length_append]
    have key : (preV s).length ≤ 24 ∧ ((preV s).isEmpty || (parts (preV s)).all preOk) = true ∧ s.drop (coreV s).length = tailV (preV s) := by
      unfold preV
      rcases htc with h0 | ⟨pre, h0⟩
      · rw [h0]
        exact ⟨Nat.zero_le _, rfl, rfl⟩
      · rw [h0] at htl ⊢
        simp only [Bool.and_eq_true, decide_eq_true_eq, Bool.not_eq_true'] at htl
        obtain ⟨⟨q1, q2⟩, q3⟩ := htl
        refine ⟨q2, by simp only [List.tail_cons]; rw [q3]; simp, ?_⟩
        unfold tailV
        rw [if_neg]
        · rfl
        · simp only [List.tail_cons]
          rintro rfl
          cases q1
    obtain ⟨k1, k2, k3⟩ := key
    unfold refVer
    rw [hrun]
    simp only [Bool.and_eq_true, decide_eq_true_eq, beq_iff_eq]
    refine ⟨?_, ?_, ?_⟩
    · have : (tailV (preV s)).length ≤ 25 := by unfold tailV; split <;> simp; omega
      rw [k3] at hslen
      omega
    · unfold checkV
      rw [k2]
      simp only [List.getD_cons_zero, List.getD_cons_succ, Bool.and_true, decide_eq_true_eq]
      exact ⟨hbnd a1 a2, hbnd b1 b2, hbnd c1 c2, k1⟩
    · unfold shownV
      simp only [List.getD_cons_zero, List.getD_cons_succ]
      rw [dec_of 6 a a2 (Nat.le_refl _) a0 a1 a3, dec_of 6 b b2 (Nat.le_refl _) b0 b1 b3, dec_of 6 c c2 (Nat.le_refl _) c0 c1 c3, ← k3]
      have hs : s = (a ++ 46 :: (b ++ 46 :: c)) ++ s.drop (coreV s).length := by rw [← ec]; exact es
      refine Eq.trans ?_ hs.symm
      simp only [List.append_assoc, List.cons_append]
end Go.Lex
