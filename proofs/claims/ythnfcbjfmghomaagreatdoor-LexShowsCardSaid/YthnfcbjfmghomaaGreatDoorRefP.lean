/- The document's answer for code points and versions, in plain Lean. No condition. -/
import Derived.Test.YthnfcbjfmghomaaGreatDoorUtf
import Derived.Test.YthnfcbjfmghomaaGreatDoorParts
namespace Go.Lex
/-! ### Code points -/
def point (p : Int) : Bool := decide (0 ≤ p ∧ p ≤ 1114111 ∧ (p < 55296 ∨ 57343 < p))
/-- the bytes of a code point, as numbers -/
def encN (p : Nat) : List Nat :=
  if p < 128 then [p]
  else if p < 2048 then [192 + p / 64, 128 + p % 64]
  else if p < 65536 then [224 + p / 4096, 128 + p / 64 % 64, 128 + p % 64]
  else [240 + p / 262144, 128 + p / 4096 % 64, 128 + p / 64 % 64, 128 + p % 64]
def enc (p : Nat) : B := (encN p).map UInt8.ofNat
def step (p : Int) (b : UInt8) : Int := p * 64 + b.toNat - 128
def leadN (b : Nat) : Nat := if 240 ≤ b then 4 else if 224 ≤ b then 3 else if 192 ≤ b then 2 else 1
def leadP (b : Nat) : Int := if 240 ≤ b then b - 240 else if 224 ≤ b then b - 224 else if 192 ≤ b then b - 192 else b
def refP (s : B) : Int := match s with
  | [] => 0
  | c :: r => (r.take (leadN c.toNat - 1)).foldl step (leadP c.toNat)
def refLen (s : B) : Nat := match s with
  | [] => 0
  | c :: r => if (c :: r).length < leadN c.toNat then 0 else if point (refP (c :: r)) && (enc (refP (c :: r)).toNat == (c :: r).take (leadN c.toNat)) then leadN c.toNat else 0
theorem encN_lt {p : Nat} (h : p ≤ 1114111) : ∀ x ∈ encN p, x < 256 := by
  intro x hx
  unfold encN at hx
  split at hx
  · simp only [List.mem_cons, List.not_mem_nil, or_false] at hx; omega
  split at hx
  · simp only [List.mem_cons, List.not_mem_nil, or_false] at hx; omega
  split at hx
  · simp only [List.mem_cons, List.not_mem_nil, or_false] at hx; omega
  · simp only [List.mem_cons, List.not_mem_nil, or_false] at hx; omega
theorem map_of {l : List Nat} (h : ∀ x ∈ l, x < 256) (m : B) : l.map UInt8.ofNat = m ↔ l = m.map (·.toNat) := by
  constructor
  · rintro rfl
    rw [List.map_map]
    conv => lhs; rw [← List.map_id l]
    exact List.map_congr_left fun x hx => by
      have := h x hx
      show x = (UInt8.ofNat x).toNat
      rw [UInt8.toNat_ofNat']
      omega
  · rintro rfl
    rw [List.map_map]
    conv => rhs; rw [← List.map_id m]
    exact List.map_congr_left fun x _ => by simp
theorem enc_eq {p : Int} (h : point p = true) (m : B) : (enc p.toNat == m) = decide (encN p.toNat = m.map (·.toNat)) := by
  have h1 := of_decide_eq_true h
  have := map_of (encN_lt (p := p.toNat) (by omega)) m
  rw [Bool.eq_iff_iff, beq_iff_eq, decide_eq_true_eq]
  exact this
theorem ref1 {a : Nat} (h : a < 192) : (point (a : Int) = true ∧ encN (a : Int).toNat = [a]) ↔ a < 128 := by
  unfold point encN
  rw [decide_eq_true_eq, Int.toNat_natCast]
  constructor
  · rintro ⟨_, h2⟩
    split at h2
    · assumption
    split at h2
    · simp at h2
    split at h2 <;> simp at h2
  · intro h
    rw [if_pos h]
    exact ⟨by omega, rfl⟩
theorem ref2 {a b : Nat} (h : 192 ≤ a) (h2 : a < 224) (hb : b < 256) {p : Int} (hp : p = ((a : Int) - 192) * 64 + b - 128) : (point p = true ∧ encN p.toNat = [a, b]) ↔ 194 ≤ a ∧ 128 ≤ b ∧ b ≤ 191 := by
  unfold point encN
  rw [decide_eq_true_eq]
  constructor
  · rintro ⟨h3, h4⟩
    split at h4
    · simp at h4
    split at h4
    · simp only [List.cons.injEq, and_true] at h4
      omega
    split at h4 <;> simp at h4
  · intro h3
    refine ⟨by omega, ?_⟩
    rw [if_neg (by omega), if_pos (by omega)]
    simp only [List.cons.injEq, and_true]
    omega
theorem ref3 {a b c : Nat} (h : 224 ≤ a) (h2 : a < 240) (hb : b < 256) (hc : c < 256) {p : Int} (hp : p = (((a : Int) - 224) * 64 + b - 128) * 64 + c - 128) :
    (point p = true ∧ encN p.toNat = [a, b, c]) ↔ ((if a = 224 then 160 else 128) ≤ b ∧ b ≤ (if a = 237 then 159 else 191)) ∧ 128 ≤ c ∧ c ≤ 191 := by
  unfold point encN
  rw [decide_eq_true_eq]
  constructor
  · rintro ⟨h3, h4⟩
    split at h4
    · simp at h4
    split at h4
    · simp at h4
    split at h4
    · simp only [List.cons.injEq, and_true] at h4
      split <;> split <;> omega
    · simp at h4
  · intro h3
    have h4 : 128 ≤ b ∧ b ≤ 191 := by
      obtain ⟨⟨h5, h6⟩, _⟩ := h3
      split at h5 <;> split at h6 <;> omega
    have h5 : a = 224 → 160 ≤ b := fun e => by rw [if_pos e] at h3; exact h3.1.1
    have h6 : a = 237 → b ≤ 159 := fun e => by
      have := h3.1.2
      rw [if_pos e] at this
      exact this
    refine ⟨by omega, ?_⟩
    rw [if_neg (by omega), if_neg (by omega), if_pos (by omega)]
    simp only [List.cons.injEq, and_true]
    omega
theorem ref4 {a b c d : Nat} (h : 240 ≤ a) (h2 : a < 256) (hb : b < 256) (hc : c < 256) (hd : d < 256) {p : Int} (hp : p = ((((a : Int) - 240) * 64 + b - 128) * 64 + c - 128) * 64 + d - 128) :
    (point p = true ∧ encN p.toNat = [a, b, c, d]) ↔ a < 245 ∧ ((if a = 240 then 144 else 128) ≤ b ∧ b ≤ (if a = 244 then 143 else 191)) ∧ (128 ≤ c ∧ c ≤ 191) ∧ 128 ≤ d ∧ d ≤ 191 := by
  unfold point encN
  rw [decide_eq_true_eq]
  constructor
  · rintro ⟨h3, h4⟩
    split at h4
    · simp at h4
    split at h4
    · simp at h4
    split at h4
    · simp at h4
    · simp only [List.cons.injEq, and_true] at h4
      refine ⟨by omega, ?_⟩
      split <;> split <;> omega
  · intro h3
    have h4 : 128 ≤ b ∧ b ≤ 191 := by
      obtain ⟨_, ⟨h5, h6⟩, _⟩ := h3
      split at h5 <;> split at h6 <;> omega
    have h5 : a = 240 → 144 ≤ b := fun e => by rw [if_pos e] at h3; exact h3.2.1.1
    have h6 : a = 244 → b ≤ 143 := fun e => by
      have := h3.2.1.2
      rw [if_pos e] at this
      exact this
    refine ⟨by omega, ?_⟩
    rw [if_neg (by omega), if_neg (by omega), if_neg (by omega)]
    simp only [List.cons.injEq, and_true]
    omega
theorem refLen_if {s : B} {n : Nat} {l : B} {q : Prop} [Decidable q] {p : Int} (hl : l = s.take n) (hq : (point p = true ∧ encN p.toNat = l.map (·.toNat)) ↔ q) : (if point p && (enc p.toNat == s.take n) then n else 0) = if q then n else 0 := by
  by_cases h : q
  · have := hq.2 h
    rw [if_pos h, if_pos]
    rw [enc_eq this.1, ← hl, this.1]
    simpa using this.2
  · rw [if_neg h, if_neg]
    intro hh
    rw [Bool.and_eq_true] at hh
    refine h (hq.1 ⟨hh.1, ?_⟩)
    have := hh.2
    rw [enc_eq hh.1, ← hl] at this
    exact of_decide_eq_true this
set_option maxHeartbeats 4000000 in
theorem refLen_eq (s : B) : refLen s = utfLen s := by
  cases s with
  | nil => rfl
  | cons a r =>
    have ha := a.toNat_lt
    rw [utfLen_N (by simp)]
    unfold refLen
    by_cases h1 : a.toNat < 192
    · have e1 : leadN a.toNat = 1 := by unfold leadN; rw [if_neg (by omega), if_neg (by omega), if_neg (by omega)]
      have e2 : refP (a :: r) = (a.toNat : Int) := by unfold refP; simp only []; rw [e1]; unfold leadP; rw [if_neg (by omega), if_neg (by omega), if_neg (by omega)]; rfl
      simp only []
      rw [e1, e2, if_neg (by simp), refLen_if (l := [a]) rfl (ref1 h1)]
      unfold utfN at0
      simp only [List.getD_cons_zero]
      split
      · rfl
      · rw [if_pos (by omega)]
    by_cases h2 : a.toNat < 224
    · have e1 : leadN a.toNat = 2 := by unfold leadN; rw [if_neg (by omega), if_neg (by omega), if_pos (by omega)]
      simp only []
      rw [e1]
      match r with
      | [] =>
        rw [if_pos (by simp)]
        unfold utfN at0
        simp only [List.getD_cons_zero, List.length_cons, List.length_nil]
        rw [if_neg (by omega)]
        repeat' split
        all_goals first | rfl | omega
      | b :: r =>
        have hb := b.toNat_lt
        have e2 : refP (a :: b :: r) = ((a.toNat : Int) - 192) * 64 + b.toNat - 128 := by unfold refP; simp only []; rw [e1]; unfold leadP; rw [if_neg (by omega), if_neg (by omega), if_pos (by omega)]; rfl
        rw [if_neg (by simp), refLen_if (l := [a, b]) rfl (ref2 (by omega) h2 hb e2)]
        unfold utfN at0
        simp only [List.getD_cons_zero, List.getD_cons_succ, List.length_cons]
        rw [if_neg (c := a.toNat < 128) (by omega)]
        repeat' split
        all_goals first | rfl | omega
    by_cases h3 : a.toNat < 240
    · have e1 : leadN a.toNat = 3 := by unfold leadN; rw [if_neg (by omega), if_pos (by omega)]
      simp only []
      rw [e1]
      match r with
      | [] =>
        rw [if_pos (by simp)]
        unfold utfN at0
        simp only [List.getD_cons_zero, List.length_cons, List.length_nil]
        rw [if_neg (by omega), if_neg (by omega), if_neg (by omega), if_pos h3, if_neg (by omega)]
      | [b] =>
        rw [if_pos (by simp)]
        unfold utfN at0
        simp only [List.getD_cons_zero, List.length_cons, List.length_nil]
        rw [if_neg (by omega), if_neg (by omega), if_neg (by omega), if_pos h3, if_neg (by omega)]
      | b :: c :: r =>
        have hb := b.toNat_lt
        have hc := c.toNat_lt
        have e2 : refP (a :: b :: c :: r) = (((a.toNat : Int) - 224) * 64 + b.toNat - 128) * 64 + c.toNat - 128 := by unfold refP; simp only []; rw [e1]; unfold leadP; rw [if_neg (by omega), if_pos (by omega)]; rfl
        rw [if_neg (by simp), refLen_if (l := [a, b, c]) rfl (ref3 (by omega) h3 hb hc e2)]
        unfold utfN at0
        simp only [List.getD_cons_zero, List.getD_cons_succ, List.length_cons]
        rw [if_neg (c := a.toNat < 128) (by omega), if_neg (c := a.toNat < 194) (by omega), if_neg (c := a.toNat < 224) (by omega), if_pos (c := a.toNat < 240) h3]
        have : 2 < r.length + 1 + 1 + 1 := by omega
        simp only [this, true_and]
    · have e1 : leadN a.toNat = 4 := by unfold leadN; rw [if_pos (by omega)]
      simp only []
      rw [e1]
      match r with
      | [] =>
        rw [if_pos (by simp)]
        unfold utfN at0
        simp only [List.getD_cons_zero, List.length_cons, List.length_nil]
        rw [if_neg (by omega), if_neg (by omega), if_neg (by omega), if_neg h3]
        split
        · rw [if_neg (by omega)]
        · rfl
      | [b] =>
        rw [if_pos (by simp)]
        unfold utfN at0
        simp only [List.getD_cons_zero, List.length_cons, List.length_nil]
        rw [if_neg (by omega), if_neg (by omega), if_neg (by omega), if_neg h3]
        split
        · rw [if_neg (by omega)]
        · rfl
      | [b, c] =>
        rw [if_pos (by simp)]
        unfold utfN at0
        simp only [List.getD_cons_zero, List.length_cons, List.length_nil]
        rw [if_neg (by omega), if_neg (by omega), if_neg (by omega), if_neg h3]
        split
        · rw [if_neg (by omega)]
        · rfl
      | b :: c :: d :: r =>
        have hb := b.toNat_lt
        have hc := c.toNat_lt
        have hd := d.toNat_lt
        have e2 : refP (a :: b :: c :: d :: r) = ((((a.toNat : Int) - 240) * 64 + b.toNat - 128) * 64 + c.toNat - 128) * 64 + d.toNat - 128 := by unfold refP; simp only []; rw [e1]; unfold leadP; rw [if_pos (by omega)]; rfl
        rw [if_neg (by simp), refLen_if (l := [a, b, c, d]) rfl (ref4 (by omega) ha hb hc hd e2)]
        unfold utfN at0
        simp only [List.getD_cons_zero, List.getD_cons_succ, List.length_cons]
        rw [if_neg (c := a.toNat < 128) (by omega), if_neg (c := a.toNat < 194) (by omega), if_neg (c := a.toNat < 224) (by omega), if_neg (c := a.toNat < 240) h3]
        have : 3 < r.length + 1 + 1 + 1 + 1 := by omega
        simp only [this, true_and]
        by_cases h5 : a.toNat < 245
        · simp only [h5, true_and, if_true]
        · simp only [h5, false_and, if_false]
end Go.Lex
