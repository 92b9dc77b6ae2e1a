/- puts; mixed; what a fall leaves, said of the plain model. No condition but that the disk is awake and not armed. -/
import Derived.Test.YtmklfedlifcoiaaLawA
namespace Go.Proofs.Ytmklfedlifcoiaa
open Go.Lift

def DM.put (d : DM) (x : Int × ByteArray) : DM := (d.write x.1 (padL x.2.data.toList)).1
def DM.puts (d : DM) (l : List (Int × ByteArray)) : DM := l.foldl DM.put d
/-- what a put leaves in the cache -/
def entry (n : Nat) (x : Int × ByteArray) : List (Nat × List UInt8) := if 0 ≤ x.1 ∧ x.1 < (n : Int) then [(x.1.toNat, padL x.2.data.toList)] else []
def entries (n : Nat) (l : List (Int × ByteArray)) : List (Nat × List UInt8) := l.flatMap (entry n)

structure Quiet (d : DM) : Prop where
  dead : d.dead = false
  armed : d.armed = 0

/-- a disk that puts have turned -/
structure PutsTo (d d' : DM) (c : List (Nat × List UInt8)) (m : Nat) : Prop where
  quiet : Quiet d'
  plat : d'.plat = d.plat
  cache : d'.cache = d.cache ++ c
  ops : d'.ops ≤ d.ops + m
  len : c.length ≤ m

theorem put_to {d : DM} (h : Quiet d) (x : Int × ByteArray) : PutsTo d (d.put x) (entry d.plat.length x) 1 ∧ ((d.write x.1 (padL x.2.data.toList)).2 = 0 ∨ (d.write x.1 (padL x.2.data.toList)).2 = 191) := by
  have hr : d.ready x.1 = if x.1 < 0 ∨ (d.plat.length : Int) ≤ x.1 then 191 else 0 := by simp [DM.ready, h.dead]
  by_cases hx : x.1 < 0 ∨ (d.plat.length : Int) ≤ x.1
  · rw [if_pos hx] at hr
    have hw := write_refused (s := padL x.2.data.toList) (show d.ready x.1 ≠ 0 by rw [hr]; decide)
    have he : entry d.plat.length x = [] := by unfold entry; rw [if_neg (by omega)]
    refine ⟨⟨?_, ?_, ?_, ?_, ?_⟩, .inr (by rw [hw]; exact hr)⟩
    all_goals simp only [DM.put, hw, he]
    · exact h
    · simp
    · omega
    · simp
  · rw [if_neg hx] at hr
    have hw := write_goes hr (padL_length x.2.data.toList) (show d.armed ≠ 1 by rw [h.armed]; decide)
    have he : entry d.plat.length x = [(x.1.toNat, padL x.2.data.toList)] := by unfold entry; rw [if_pos (by omega)]
    refine ⟨⟨⟨?_, ?_⟩, ?_, ?_, ?_, ?_⟩, .inl (by rw [hw])⟩
    all_goals simp only [DM.put, hw, he, DM.fell, DM.wrote]
    · exact h.dead
    · simp [h.armed]
    · simp
    · simp
theorem puts_to : ∀ {d : DM} (_ : Quiet d) (l : List (Int × ByteArray)), PutsTo d (d.puts l) (entries d.plat.length l) l.length
  | d, h, [] => ⟨h, rfl, by simp [entries, DM.puts], by simp [DM.puts], by simp [entries]⟩
  | d, h, x :: l => by
    have h1 := (put_to h x).1
    have h2 := puts_to h1.quiet l
    refine ⟨h2.quiet, h2.plat.trans h1.plat, ?_, ?_, ?_⟩
    · show ((d.put x).puts l).cache = _
      rw [h2.cache, h1.cache, h1.plat]
      simp [entries]
    · have a := h1.ops; have b := h2.ops
      show ((d.put x).puts l).ops ≤ _
      simp only [List.length_cons]
      omega
    · have a := h1.len; have b := h2.len
      rw [h1.plat] at b
      simp only [entries, List.flatMap_cons, List.length_append, List.length_cons] at *
      omega

section
variable {w0 w : World} {p : Nat} {d : DM} {X : (Nat → Prop) → World → Prop}
/-- the readings of the k-th put -/
theorem RdP.at {s : Sl} {l : List (Int × ByteArray)} (h : RdP w0 s l) {k : Nat} (hk : k < l.length) : ∃ x a, l[k]? = some x ∧ s.a = some a ∧
    (∀ w', Fr noB w0 w' → w'.cell? ((a.add (k * 2)).add 0) = some (.int .i64 x.1)) ∧ (∀ w', Fr noB w0 w' → w'.cell? ((a.add (k * 2)).add 1) = some (.string x.2)) ∧
    ∀ {K : Addr → G} {w' : World} {R : Ending → World → Prop}, K (a.add (k * 2)) R w' → idxG (some a) s.n (k : Int) 2 K R w' := by
  obtain ⟨x, hx⟩ : ∃ x, l[k]? = some x := ⟨_, List.getElem?_eq_getElem hk⟩
  obtain ⟨a, hla, hc0, hc1⟩ := h.2 k x hx
  have hn := h.1
  exact ⟨x, a, hx, hla, fun w' F => F.cell hc0 (fun h => h), fun w' F => F.cell hc1 (fun h => h), fun hK => idx_ok (by omega) (by omega) (by rw [Int.toNat_natCast]; exact hK)⟩

theorem Sep.puts (hX : Stable X) (O : Sep w0 w p d X) (l0 : Sl) (l : List (Int × ByteArray)) (hl : RdP w0 l0 l) (hq : Quiet d) (hc : d.cache.length + l.length ≤ 1000000) (ho : d.ops + l.length < 4611686018427387904) :
    Calls Try.prog 18 #[.pointer (some ⟨p, 0, none⟩), .slice l0.a l0.n l0.c] w fun e w' => e = .returned (.bool true) ∧ Sep w0 w' p (d.puts l) X := by
  apply c18
  unfold t18
  refine join0_ok (fun w' => Sep w0 w' p (d.puts l) X) (fun kend hkend => ?_) (fun w' O' => ⟨rfl, O'⟩)
  refine loop1_ok (c := .int .i64) (fun (i : Int) w' => ∃ k : Nat, i = (k : Int) ∧ k ≤ l.length ∧ Sep w0 w' p (d.puts (l.take k)) X) (fun (i : Int) => l.length - i.toNat) ?_
    ⟨0, rfl, Nat.zero_le _, by simpa [DM.puts] using O⟩
  rintro rec i w2 ⟨k, rfl, hk, O2⟩ hrec
  have hn := hl.1
  refine ite_ok (fun hlt => ?_) (fun hge => ?_)
  · have hlt : k < l.length := by simp only [decide_eq_true_eq] at hlt; omega
    obtain ⟨x, a, hx, hla, rd0, rd1, hix⟩ := hl.at hlt
    refine join_in (drew_ok fun w3 F3 _ => ?_)
    have O3 := O2.fr hX F3
    rw [hla]
    refine hix (ld_ok (c := .int .i64) (x := x.1) (rd0 _ O3.fr0) (hix (ld_ok (c := .str) (x := x.2) (rd1 _ O3.fr0) ?_)))
    refine callS_ok (O3.sector hX x.2) fun w4 O4 => ?_
    refine keep_cons (held_one (rd0 _ O4.fr0)) (keep_nil ?_)
    have T := puts_to hq (l.take k)
    have hT := T.len
    have hTo := T.ops
    rw [List.length_take] at hT hTo
    have hq2 := T.quiet
    refine callI_ok (O4.write hX x.1 (pad x.2) (by rw [T.cache, List.length_append]; omega) (by omega)) fun w5 O5 => ?_
    rw [pad_list] at O5 ⊢
    have hput := put_to hq2 x
    have hstep : ((d.puts (l.take k)).write x.1 (padL x.2.data.toList)).1 = d.puts (l.take (k + 1)) := by
      have e : l.take (k + 1) = l.take k ++ [x] := by rw [List.take_add_one, hx]; rfl
      rw [e]
      unfold DM.puts
      rw [List.foldl_append]
      rfl
    rw [hstep] at O5
    refine join1_ok (c := .bool) (fun (b : Bool) w' => b = false ∧ w' = w5) (fun kj hkj => ?_) ?_
    · rcases hput.2 with h | h <;> rw [h]
      · exact ite_no rfl (hkj _ _ ⟨rfl, rfl⟩)
      · exact ite_yes rfl (hkj _ _ ⟨rfl, rfl⟩)
    rintro _ w5' ⟨rfl, hw⟩
    replace hw := hw.symm
    subst hw
    refine ite_no rfl (hrec _ _ ⟨k + 1, ?_, hlt, O5⟩ ?_)
    · rw [wrap_ok (by omega) (by omega)]; omega
    · rw [wrap_ok (by omega) (by omega), Int.toNat_natCast]; omega
  · have hge : k = l.length := by simp only [decide_eq_false_iff_not] at hge; omega
    subst hge
    rw [List.take_length] at O2
    exact hkend _ O2
end

/-! ### mixed -/
/-- a slice of texts that reads so -/
def RdS (w : World) (s : Sl) (l : List ByteArray) : Prop := s.n = l.length ∧ ∀ k x, l[k]? = some x → ∃ a, s.a = some a ∧ w.cell? (a.add (k * 1)) = some (.string x)
theorem RdS.fr {w w' : World} {s : Sl} {l : List ByteArray} (h : RdS w s l) (F : Fr noB w w') : RdS w' s l :=
  ⟨h.1, fun k x hx => by
    obtain ⟨a, ha, h1⟩ := h.2 k x hx
    exact ⟨a, ha, F.cell h1 (fun h => h)⟩⟩
theorem RdS.at {w0 : World} {s : Sl} {l : List ByteArray} (h : RdS w0 s l) {k : Nat} (hk : k < l.length) : ∃ x a, l[k]? = some x ∧ s.a = some a ∧
    (∀ w', Fr noB w0 w' → w'.cell? (a.add (k * 1)) = some (.string x)) ∧
    ∀ {K : Addr → G} {w' : World} {R : Ending → World → Prop}, K (a.add (k * 1)) R w' → idxG (some a) s.n (k : Int) 1 K R w' := by
  obtain ⟨x, hx⟩ : ∃ x, l[k]? = some x := ⟨_, List.getElem?_eq_getElem hk⟩
  obtain ⟨a, hla, hc0⟩ := h.2 k x hx
  have hn := h.1
  exact ⟨x, a, hx, hla, fun w' F => F.cell hc0 (fun h => h), fun hK => idx_ok (by omega) (by omega) (by rw [Int.toNat_natCast]; exact hK)⟩

def cut (s : ByteArray) (a b : Nat) : ByteArray := s.extract a b
/-- one of some, or the first bytes of one and the last ones of an earlier one -/
def Mix (s : ByteArray) (l : List ByteArray) : Prop :=
  ∃ (i : Nat) (x : ByteArray), l[i]? = some x ∧ (s = x ∨ ∃ (k : Nat) (y : ByteArray) (c : Nat), k < i ∧ l[k]? = some y ∧ c ≤ 64 ∧ s = x.extract 0 c ++ y.extract c y.size)

set_option maxHeartbeats 1000000 in
theorem mixed_ok {w : World} (s : ByteArray) (l0 : Sl) (l : List ByteArray) (hl : RdS w l0 l) (h64 : ∀ x ∈ l, x.size = 64) (hlen : l.length ≤ 1000000) (hm : Mix s l) :
    Calls Try.prog 21 #[.string s, .slice l0.a l0.n l0.c] w fun e w' => e = .returned (.bool true) ∧ Fr noB w w' := by
  obtain ⟨i0, x0, hi0, hm⟩ := hm
  have hi0l : i0 < l.length := (List.getElem?_eq_some_iff.1 hi0).1
  apply c21
  unfold t21
  refine join0_ok (fun _ => False) (fun kend hkend => ?_) (fun _ h => h.elim)
  have hn := hl.1
  refine loop1_ok (c := .int .i64) (fun (i : Int) w' => ∃ k : Nat, i = (k : Int) ∧ k ≤ i0 ∧ Fr noB w w') (fun (i : Int) => l.length - i.toNat) ?_ ⟨0, rfl, Nat.zero_le _, Fr.refl _ _⟩
  rintro rec i w1 ⟨j, rfl, hj, F1⟩ hrec
  refine ite_yes (by simp only [decide_eq_true_eq]; omega) ?_
  obtain ⟨x, a, hx, hla, rd, hix⟩ := hl.at (show j < l.length by omega)
  have hx64 : x.size = 64 := h64 x (List.mem_of_getElem? hx)
  -- the round's end: only ahead of the witness
  refine join0_ok (fun w' => j < i0 ∧ Fr noB w w') (fun kr hkr => ?_) (fun w2 ⟨hlt, F2⟩ => ?_)
  rotate_left
  · refine hrec _ _ ⟨j + 1, ?_, hlt, F2⟩ ?_
    · rw [wrap_ok (by omega) (by omega)]; omega
    · rw [wrap_ok (by omega) (by omega), Int.toNat_natCast]; omega
  rw [hla]
  refine hix (ld_ok (c := .str) (x := x) (rd _ F1) ?_)
  refine ite_ok (fun _ => ⟨rfl, F1⟩) fun hne => ?_
  have hwit : j = i0 → ∃ (k0 : Nat) (y : ByteArray) (c0 : Nat), k0 < i0 ∧ l[k0]? = some y ∧ c0 ≤ 64 ∧ s = x.extract 0 c0 ++ y.extract c0 y.size := by
    rintro rfl
    rw [hx] at hi0
    cases hi0
    rcases hm with h | h
    · subst h; simp at hne
    · exact h
  refine join0_ok (fun w' => j < i0 ∧ Fr noB w w') (fun k8 hk8 => ?_) (fun w2 h => hkr _ h)
  refine loop1_ok (c := .int .i64) (fun (i : Int) w' => ∃ k : Nat, i = (k : Int) ∧ k ≤ j ∧ (j = i0 → ∃ (k0 : Nat) (y : ByteArray) (c0 : Nat), k ≤ k0 ∧ k0 < i0 ∧ l[k0]? = some y ∧ c0 ≤ 64 ∧ s = x.extract 0 c0 ++ y.extract c0 y.size) ∧ Fr noB w w') (fun (i : Int) => l.length - i.toNat) ?_
    ⟨0, rfl, Nat.zero_le _, fun h => by obtain ⟨k0, y, c0, h1, h2⟩ := hwit h; exact ⟨k0, y, c0, Nat.zero_le _, h1, h2⟩, F1⟩
  rintro rec2 i2 w2 ⟨k, rfl, hk, hk0, F2⟩ hrec2
  refine ite_ok (fun hlt => ?_) (fun hge => ?_)
  rotate_left
  · have hge : ¬ k < j := by simpa using hge
    refine hk8 _ ⟨?_, F2⟩
    rcases Nat.lt_or_eq_of_le hj with h | h
    · exact h
    · obtain ⟨k0, y, c0, h1, h2, _⟩ := hk0 h
      omega
  have hlt : k < j := by simpa using hlt
  obtain ⟨y, a2, hy, hla2, rd2, hix2⟩ := hl.at (show k < l.length by omega)
  rw [hla] at hla2
  cases hla2
  have hy64 : y.size = 64 := h64 y (List.mem_of_getElem? hy)
  refine join0_ok (fun w' => (j = i0 → ∃ (k0 : Nat) (y : ByteArray) (c0 : Nat), k + 1 ≤ k0 ∧ k0 < i0 ∧ l[k0]? = some y ∧ c0 ≤ 64 ∧ s = x.extract 0 c0 ++ y.extract c0 y.size) ∧ Fr noB w w') (fun k11 hk11 => ?_) (fun w3 ⟨h, F3⟩ => ?_)
  rotate_left
  · refine hrec2 _ _ ⟨k + 1, ?_, hlt, h, F3⟩ ?_
    · rw [wrap_ok (by omega) (by omega)]; omega
    · rw [wrap_ok (by omega) (by omega), Int.toNat_natCast]; omega
  refine join0_ok (fun w' => (j = i0 → ∃ (k0 : Nat) (y : ByteArray) (c0 : Nat), k + 1 ≤ k0 ∧ k0 < i0 ∧ l[k0]? = some y ∧ c0 ≤ 64 ∧ s = x.extract 0 c0 ++ y.extract c0 y.size) ∧ Fr noB w w') (fun k12 hk12 => ?_) (fun w3 h => hk11 _ h)
  refine loop1_ok (c := .int .i64) (fun (i : Int) w' => ∃ c : Nat, i = (c : Int) ∧ c ≤ 65 ∧ (j = i0 → ∃ (k0 : Nat) (y' : ByteArray) (c0 : Nat), (k = k0 → c ≤ c0) ∧ k ≤ k0 ∧ k0 < i0 ∧ l[k0]? = some y' ∧ c0 ≤ 64 ∧ s = x.extract 0 c0 ++ y'.extract c0 y'.size) ∧ Fr noB w w') (fun (i : Int) => 65 - i.toNat) ?_
    ⟨0, rfl, by omega, fun h => by obtain ⟨k0, y, c0, h1, h2⟩ := hk0 h; exact ⟨k0, y, c0, fun _ => Nat.zero_le _, h1, h2⟩, F2⟩
  rintro rec3 i3 w3 ⟨c, rfl, hc, hc0, F3⟩ hrec3
  refine ite_ok (fun hle => ?_) (fun hgt => ?_)
  rotate_left
  · have hgt : ¬ c ≤ 64 := by simp only [decide_eq_false_iff_not] at hgt; omega
    refine hk12 _ ⟨fun h => ?_, F3⟩
    obtain ⟨k0, y', c0, h1, h2, h3, h4, h5, h6⟩ := hc0 h
    refine ⟨k0, y', c0, ?_, h3, h4, h5, h6⟩
    rcases Nat.lt_or_eq_of_le h2 with h | h
    · exact h
    · have := h1 h; omega
  have hle : c ≤ 64 := by simp only [decide_eq_true_eq] at hle; omega
  refine join0_ok (fun w' => s ≠ x.extract 0 c ++ y.extract c y.size ∧ Fr noB w w') (fun k15 hk15 => ?_) (fun w4 ⟨hns, F4⟩ => ?_)
  rotate_left
  · refine hrec3 _ _ ⟨c + 1, ?_, by omega, fun h => ?_, F4⟩ ?_
    · rw [wrap_ok (by omega) (by omega)]; omega
    · obtain ⟨k0, y', c0, h1, h2, h3, h4, h5, h6⟩ := hc0 h
      refine ⟨k0, y', c0, fun e => ?_, h2, h3, h4, h5, h6⟩
      have hcc := h1 e
      rcases Nat.lt_or_eq_of_le hcc with h' | h'
      · exact h'
      · subst e h'
        rw [hy] at h4
        cases h4
        exact absurd h6 hns
    · rw [wrap_ok (by omega) (by omega), Int.toNat_natCast]; omega
  refine drew_ok fun w5 F5 _ => ?_
  have F35 := F3.then F5 (fun _ _ h => h)
  refine hix (ld_ok (c := .str) (x := x) (rd _ F35) (sub_ok (by omega) (by omega) (by omega) ?_))
  refine hix2 (ld_ok (c := .str) (x := y) (rd2 _ F35) (sub_ok (by omega) (by omega) (by omega) ?_))
  simp only [Int.toNat_natCast, Int.toNat_zero]
  refine cat_ok ?_ ?_
  · simp only [ByteArray.size_extract]; omega
  refine ite_ok (fun _ => ⟨rfl, F35⟩) fun hne' => hk15 _ ⟨fun e => ?_, F35⟩
  subst e
  simp at hne'

end Go.Proofs.Ytmklfedlifcoiaa
