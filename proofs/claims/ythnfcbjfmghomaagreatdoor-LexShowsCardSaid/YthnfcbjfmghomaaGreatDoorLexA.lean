/- The scanner's plain tests: words, signs, names. No condition. -/
import Derived.Test.YthnfcbjfmghomaaGreatDoorBytes
import Derived.Test.YthnfcbjfmghomaaGreatDoorLexSpec
import Derived.Test.YthnfcbjfmghomaaGreatDoorTreeA
namespace Go.Lift
theorem Fr.tr {a b c : World} (h : Fr noB a b) (k : Fr noB b c) : Fr noB a c := h.then k fun _ _ h => h
theorem u8_lit (c d : UInt8) {z : Int} (hz : z = (d.toNat : Int)) : ((c.toNat : Int) == z) = (c == d) := by
  subst hz
  rw [Bool.eq_iff_iff]
  simp only [beq_iff_eq]
  exact u8_eq
theorem bl_eq_nil {s : ByteArray} : bl s = [] ↔ s.size = 0 := by rw [← bl_length]; exact ⟨fun h => by rw [h]; rfl, fun h => List.eq_nil_of_length_eq_zero h⟩
theorem ite_or {a b : Bool} {x y : G} : iteG a x (iteG b x y) = iteG (a || b) x y := by cases a <;> rfl
theorem iteG_self {a b : Bool} : iteG a (retG (.bool a)) (retG (.bool b)) = retG (.bool (a || b)) := by cases a <;> rfl
theorem ite_bool {a : Bool} : iteG a (retG (.bool true)) (retG (.bool false)) = retG (.bool a) := by cases a <;> rfl
/-- a slice of texts that reads so -/
def RdS (w : World) (s : Sl) (l : List ByteArray) : Prop := s.n = l.length ∧ ∀ k x, l[k]? = some x → ∃ a, s.a = some a ∧ w.cell? (a.add (k * 1)) = some (.string x)
theorem RdS.fr {w w' : World} {s : Sl} {l : List ByteArray} (h : RdS w s l) (F : Fr noB w w') : RdS w' s l :=
  ⟨h.1, fun k x hx => by
    obtain ⟨a, ha, h1⟩ := h.2 k x hx
    exact ⟨a, ha, F.cell h1 (fun h => h)⟩⟩
theorem RdS.at {w0 : World} {s : Sl} {l : List ByteArray} (h : RdS w0 s l) {k : Nat} (hk : k < l.length) : ∃ x a, l[k]? = some x ∧ s.a = some a ∧
    (∀ w', Fr noB w0 w' → w'.cell? (a.add (k * 1)) = some (.string x)) ∧
    ∀ {K : Addr → G} {w' : World} {R : Ending → World → Prop}, K (a.add (k * 1)) R w' → idxG (some a) s.n (k : Int) 1 K R w' := by
  obtain ⟨x, hx⟩ : ∃ x, l[k]? = some x := ⟨_, List.getElem?_eq_getElem hk⟩
  obtain ⟨a, hla, hc0⟩ := h.2 k x hx
  have hn := h.1
  exact ⟨x, a, hx, hla, fun w' F => F.cell hc0 (fun h => h), fun hK => idx_ok (by omega) (by omega) (by rw [Int.toNat_natCast]; exact hK)⟩
theorem RdS.of_blk {w : World} {b : Nat} {t : TypeId} {l : List ByteArray} (B : Blk w b t (l.map Value.string)) (c : Nat) : RdS w ⟨some ⟨b, 0, none⟩, l.length, c⟩ l :=
  ⟨rfl, fun k x hx => ⟨_, rfl, by
    rw [Addr.add_lit]
    exact B.cell (by rw [Nat.zero_add, Nat.mul_one, List.getElem?_map, hx]; rfl)⟩⟩
/-- a byte of a text -/
theorem chr_ok {R : Ending → World → Prop} {w : World} {s : ByteArray} {i : Nat} {k : Int → G} (hi : i < s.size) (h : k ((((bl s)[i]'(by rw [bl_length]; exact hi)).toNat : Nat) : Int) R w) : chrG s (i : Int) k R w := by
  refine ⟨by omega, by omega, ?_⟩
  rw [byteAt_bl]
  have e : (bl s).getD i 0 = (bl s)[i]'(by rw [bl_length]; exact hi) := by
    rw [List.getD_eq_getElem?_getD, List.getElem?_eq_getElem (by rw [bl_length]; exact hi)]
    rfl
  rw [e]
  exact h
end Go.Lift
namespace Go.Proofs.YthnfcbjfmghomaaGreatDoor
open Go.Lift Go.Lex
section
variable {w : World}
/-- a call that answers a bool, and writes nothing that was there -/
abbrev AnsB (f : FuncId) (args : Array Value) (w : World) (b : Bool) : Prop := Calls Tryz.prog f args w fun e w' => e = .returned (.bool b) ∧ Fr noB w w'
theorem done_b {b c : Bool} {w' : World} (h : b = c ∧ Fr noB w w') : (Ending.returned (Value.bool b) = .returned (.bool c)) ∧ Fr noB w w' := ⟨by rw [h.1], h.2⟩
theorem range_ok {lo hi : Int} (c : UInt8) {p : Bool} (hp : p = decide (lo ≤ (c.toNat : Int) ∧ (c.toNat : Int) ≤ hi)) :
    joinG [(VT.one CT.bool)] (fun k1 => iteG (Decidable.decide ((c.toNat : Int) ≥ lo)) (k1 (Decidable.decide ((c.toNat : Int) ≤ hi))) (k1 false)) (fun (b2 : Bool) => retG (Value.bool b2)) (fun e w' => e = .returned (.bool p) ∧ Fr noB w w') w := by
  subst hp
  refine ite_ok (fun h => ⟨?_, Fr.refl _ _⟩) fun h => ⟨?_, Fr.refl _ _⟩
  · simp only [decide_eq_true_eq] at h
    simp [h]
  · simp only [decide_eq_false_iff_not] at h
    have : ¬ lo ≤ (c.toNat : Int) := h
    simp [this]
theorem small_dec (c : UInt8) : small c = decide ((97 : Int) ≤ (c.toNat : Int) ∧ (c.toNat : Int) ≤ 122) := by unfold small; rw [Bool.eq_iff_iff]; simp only [decide_eq_true_eq]; omega
theorem great_dec (c : UInt8) : great c = decide ((65 : Int) ≤ (c.toNat : Int) ∧ (c.toNat : Int) ≤ 90) := by unfold great; rw [Bool.eq_iff_iff]; simp only [decide_eq_true_eq]; omega
theorem digit_dec (c : UInt8) : digit c = decide ((48 : Int) ≤ (c.toNat : Int) ∧ (c.toNat : Int) ≤ 57) := by unfold digit; rw [Bool.eq_iff_iff]; simp only [decide_eq_true_eq]; omega
theorem small_ok (c : UInt8) : AnsB 27 #[.int .u8 (c.toNat : Int)] w (small c) := c27 _ (range_ok c (small_dec c))
theorem great_ok (c : UInt8) : AnsB 30 #[.int .u8 (c.toNat : Int)] w (great c) := c30 _ (range_ok c (great_dec c))
theorem digit_ok (c : UInt8) : AnsB 48 #[.int .u8 (c.toNat : Int)] w (digit c) := c48 _ (range_ok c (digit_dec c))
theorem rsmall_ok (c : UInt8) : AnsB 28 #[.int .u8 (c.toNat : Int)] w (small c) := c28 _ (range_ok c (small_dec c))
theorem rgreat_ok (c : UInt8) : AnsB 31 #[.int .u8 (c.toNat : Int)] w (great c) := c31 _ (range_ok c (great_dec c))
theorem rdigit_ok (c : UInt8) : AnsB 44 #[.int .u8 (c.toNat : Int)] w (digit c) := c44 _ (range_ok c (digit_dec c))
theorem rest_ok (c : UInt8) : AnsB 43 #[.int .u8 (c.toNat : Int)] w (rest c) := by
  apply c43
  unfold t43
  refine join1_ok (c := .bool) (fun (b : Bool) w' => b = rest c ∧ Fr noB w w') (fun k hk => ?_) (fun b w' h => done_b h)
  unfold rest at hk
  refine callB_ok (small_ok c) fun w1 F1 => ite_ok (fun h => hk _ _ ⟨by simp [h], F1⟩) fun h => ?_
  refine callB_ok (great_ok c) fun w2 F2 => ite_ok (fun h2 => hk _ _ ⟨by simp [h2], F1.tr F2⟩) fun h2 => ?_
  refine callB_ok (digit_ok c) fun w3 F3 => ite_ok (fun h3 => hk _ _ ⟨by simp [h3], (F1.tr F2).tr F3⟩) fun h3 => hk _ _ ⟨?_, (F1.tr F2).tr F3⟩
  rw [u8_lit c 95 (z := 95) rfl, h, h2, h3]
  rfl
theorem lump_ok (c : UInt8) : AnsB 49 #[.int .u8 (c.toNat : Int)] w (lump c) := by
  apply c49
  unfold t49
  refine join1_ok (c := .bool) (fun (b : Bool) w' => b = lump c ∧ Fr noB w w') (fun k hk => ?_) (fun b w' h => done_b h)
  unfold lump at hk
  refine callB_ok (small_ok c) fun w1 F1 => ite_ok (fun h => hk _ _ ⟨by simp [h], F1⟩) fun h => ?_
  refine callB_ok (great_ok c) fun w2 F2 => ite_ok (fun h2 => hk _ _ ⟨by simp [h2], F1.tr F2⟩) fun h2 => ?_
  refine callB_ok (digit_ok c) fun w3 F3 => ite_ok (fun h3 => hk _ _ ⟨by simp [h3], (F1.tr F2).tr F3⟩) fun h3 => ?_
  rw [u8_lit c 46 (z := 46) rfl, u8_lit c 45 (z := 45) rfl]
  refine ite_ok (fun h4 => hk _ _ ⟨by simp [h4], (F1.tr F2).tr F3⟩) fun h4 => hk _ _ ⟨?_, (F1.tr F2).tr F3⟩
  rw [h, h2, h3, h4]
  rfl
/-- not a line's end -/
theorem line_ok (c : UInt8) : AnsB 34 #[.int .u8 (c.toNat : Int)] w (c != 10) := by
  apply c34
  unfold t34
  refine ⟨?_, Fr.refl _ _⟩
  rw [bne, bne, u8_lit c 10 (z := 10) rfl]
def inText (c : UInt8) : Bool := decide (32 ≤ c.toNat) && c != 34 && c != 92
theorem inText_ok (c : UInt8) : AnsB 77 #[.int .u8 (c.toNat : Int)] w (inText c) := by
  apply c77
  unfold t77
  refine join1_ok (c := .bool) (fun (b : Bool) w' => b = inText c ∧ Fr noB w w') (fun k hk => ?_) (fun b w' h => done_b h)
  unfold inText at hk
  rw [bne, bne, u8_lit c 34 (z := 34) rfl, u8_lit c 92 (z := 92) rfl]
  refine ite_ok (fun h => ite_ok (fun h2 => hk _ _ ⟨?_, Fr.refl _ _⟩) fun h2 => hk _ _ ⟨?_, Fr.refl _ _⟩) fun h => hk _ _ ⟨?_, Fr.refl _ _⟩
  · simp only [decide_eq_true_eq] at h
    rw [decide_eq_true (by omega : 32 ≤ c.toNat)]
    simp only [bne, h2, Bool.true_and]
  · simp [bne, h2]
  · simp only [decide_eq_false_iff_not] at h
    rw [decide_eq_false (by omega : ¬ 32 ≤ c.toNat)]
    rfl

/-! ### Words -/
theorem among_ok (s : ByteArray) (l0 : Sl) (l : List B) (hl : RdS w l0 (l.map bs)) (hn : l.length ≤ 1000) : AnsB 24 #[.string s, .slice l0.a l0.n l0.c] w (l.contains (bl s)) := by
  apply c24
  unfold t24
  have hll : l0.n = l.length := by rw [hl.1, List.length_map]
  refine join0_ok (fun w' => l.contains (bl s) = false ∧ Fr noB w w') (fun kend hkend => ?_) (fun w' h => ⟨by rw [h.1], h.2⟩)
  refine count_ok l.length (by omega) (fun k w' => (∀ i, i < k → l[i]? ≠ some (bl s)) ∧ Fr noB w w') (fun rec k w1 hk hI hrec => ?_) ⟨fun i h => by omega, Fr.refl _ _⟩
  obtain ⟨hno, F1⟩ := hI
  refine ite_ok (fun hlt => ?_) fun hge => hkend _ ⟨?_, F1⟩
  · have hlt : k < l.length := by simp only [decide_eq_true_eq] at hlt; omega
    obtain ⟨x, a, hx, hla, rd, hix⟩ := hl.at (k := k) (by simpa using hlt)
    rw [hla]
    have hxl : l[k]? = some (bl x) := by
      rw [List.getElem?_map] at hx
      obtain ⟨y, hy, rfl⟩ := Option.map_eq_some_iff.1 hx
      rw [hy, bl_bs]
    refine join_in (hix (ld_ok (c := .str) (x := x) (rd _ F1) ?_))
    rw [eq_bl]
    refine ite_ok (fun h => ⟨?_, F1⟩) fun h => hrec hlt _ ⟨fun i hi => ?_, F1⟩
    · have h : bl s = bl x := by simpa using h
      rw [h, List.contains_iff_mem.2 (List.mem_of_getElem? hxl)]
    · rcases Nat.lt_succ_iff_lt_or_eq.1 hi with hi | rfl
      · exact hno i hi
      · rw [hxl]
        intro e
        have h : ¬ bl s = bl x := by simpa using h
        exact h (Option.some.inj e).symm
  · have hge : k = l.length := by simp only [decide_eq_false_iff_not] at hge; omega
    subst hge
    rw [Bool.eq_false_iff]
    intro hc
    obtain ⟨i, hi⟩ := List.mem_iff_getElem?.1 (List.contains_iff_mem.1 hc)
    exact hno i (List.getElem?_eq_some_iff.1 hi).1 hi
theorem rWord_ok (s : ByteArray) : AnsB 11 #[.string s] w (isWord (bl s)) := by
  apply c11
  unfold t11
  refine new_ok fun w1 m hm hs B F1 => ?_
  have B1 : Blk w1 m 9 ((words.map bs).map Value.string) := B
  refine callB_ok (among_ok s ⟨some ⟨m, 0, none⟩, 20, 20⟩ words (RdS.of_blk B1 20) (by decide)) fun w2 F2 => ⟨rfl, F1.tr F2⟩
theorem rSign_ok (s : ByteArray) : AnsB 13 #[.string s] w (isSign (bl s)) := by
  apply c13
  unfold t13
  refine new_ok fun w1 m hm hs B F1 => ?_
  have B1 : Blk w1 m 9 ((signs.map bs).map Value.string) := B
  refine callB_ok (among_ok s ⟨some ⟨m, 0, none⟩, 20, 20⟩ signs (RdS.of_blk B1 20) (by decide)) fun w2 F2 => ⟨rfl, F1.tr F2⟩
theorem Word_ok (s : ByteArray) : AnsB 10 #[.string s] w (isWord (bl s)) := by
  apply c10
  unfold t10 joinG
  simp only [eq_bl, ite_bool, iteG_self]
  refine ⟨?_, Fr.refl _ _⟩
  congr 2
  simp only [isWord, words, List.contains_cons, List.contains_nil, Bool.or_false]
  rfl
end
end Go.Proofs.YthnfcbjfmghomaaGreatDoor
