/- What a fall leaves, said of the plain model. No condition. -/
import Derived.Test.YtmklfedlifcoiaaPuts
namespace Go.Proofs.Ytmklfedlifcoiaa
open Go.Lift

def bs (l : List UInt8) : ByteArray := ⟨l.toArray⟩
theorem ba_ext {a b : ByteArray} (h : a.data.toList = b.data.toList) : a = b := by
  have : a.data = b.data := Array.toList_inj.1 h
  cases a; cases b; cases this; rfl
theorem bs_list (l : List UInt8) : (bs l).data.toList = l := by simp [bs]
theorem bs_size (l : List UInt8) : (bs l).size = l.length := by simp [bs, ByteArray.size]
theorem pad_bs (s : ByteArray) : pad s = bs (padL s.data.toList) := rfl
theorem extract_list (s : ByteArray) (a b : Nat) : (s.extract a b).data.toList = (s.data.toList.drop a).take (b - a) := by
  simp only [ByteArray.data_extract, Array.toList_extract, List.extract_eq_take_drop]

theorem put1_at (pl : List (List UInt8)) (i : Nat) (s : List UInt8) (n : Nat) (j : Nat) : (put1 pl i s n)[j]? = (pl[j]?).map fun old => if i = j then s.take n ++ old.drop n else old := by
  unfold put1
  rw [List.getElem?_modify]
  cases pl[j]? <;> rfl
theorem put1_all {pl : List (List UInt8)} (h : ∀ x ∈ pl, x.length = 64) (i : Nat) {s : List UInt8} (hs : s.length = 64) : put1 pl i s 64 = pl.set i s := by
  apply List.ext_getElem?
  intro j
  rw [put1_at, List.getElem?_set]
  by_cases hij : i = j
  · subst hij
    simp only [if_true]
    by_cases hi : i < pl.length
    · rw [List.getElem?_eq_getElem hi, if_pos hi]
      have := h _ (List.getElem_mem hi)
      simp [List.take_of_length_le, List.drop_of_length_le, hs, this]
    · rw [List.getElem?_eq_none (by omega), if_neg hi]
      rfl
  · simp [hij]
theorem put1_none (pl : List (List UInt8)) (i : Nat) (s : List UInt8) : put1 pl i s 0 = pl := by
  apply List.ext_getElem?
  intro j
  rw [put1_at]
  cases pl[j]? <;> simp

theorem dropL_all (n : Nat) (torn cut : Int) (ht : torn ≤ 0) : ∀ (c : List (Nat × List UInt8)) (k : Nat) (pl : List (List UInt8)), k + c.length ≤ n → (∀ x ∈ c, x.2.length = 64) → (∀ x ∈ pl, x.length = 64) →
    dropL (List.replicate n true) torn cut k c pl = flushL c pl
  | [], _, _, _, _, _ => rfl
  | (i, s) :: c, k, pl, hk, hc, hp => by
    simp only [List.length_cons] at hk
    have hs : s.length = 64 := hc (i, s) (by simp)
    have ha : amount (List.replicate n true) torn cut k = 64 := by
      unfold amount
      rw [if_neg (by omega), if_pos (by rw [List.getElem?_replicate, if_pos (by omega)])]
    rw [dropL, ha, put1_all hp i hs, dropL_all n torn cut ht c (k + 1) _ (by omega) (fun x hx => hc x (by simp [hx])) (set_len hp hs)]
    rfl
theorem dropL_none (torn cut : Int) (ht : torn ≤ 0) : ∀ (c : List (Nat × List UInt8)) (k : Nat) (pl : List (List UInt8)), dropL [] torn cut k c pl = pl
  | [], _, _ => rfl
  | (i, s) :: c, k, pl => by
    have ha : amount [] torn cut k = 0 := by
      unfold amount
      rw [if_neg (by omega), if_neg (by simp)]
    rw [dropL, ha, put1_none, dropL_none torn cut ht c]

/-! ### Torn rows -/
def MixL (row : List UInt8) (F : List (List UInt8)) : Prop :=
  ∃ (i : Nat) (x : List UInt8), F[i]? = some x ∧ (row = x ∨ ∃ (k : Nat) (y : List UInt8) (c : Nat), k < i ∧ F[k]? = some y ∧ c ≤ 64 ∧ row = x.take c ++ y.drop c)
theorem at_app {α : Type} {F E : List α} {i : Nat} {x : α} (h : F[i]? = some x) : (F ++ E)[i]? = some x := by
  rw [List.getElem?_append_left (List.getElem?_eq_some_iff.1 h).1]; exact h
theorem MixL.app {row : List UInt8} {F : List (List UInt8)} (h : MixL row F) (E : List (List UInt8)) : MixL row (F ++ E) := by
  obtain ⟨i, x, hi, h⟩ := h
  refine ⟨i, x, at_app hi, h.imp id ?_⟩
  rintro ⟨k, y, c, h1, h2, h3⟩
  exact ⟨k, y, c, h1, at_app h2, h3⟩
theorem MixL.of_mem {row : List UInt8} {F : List (List UInt8)} (h : row ∈ F) : MixL row F := by
  obtain ⟨i, hi⟩ := List.mem_iff_getElem?.1 h
  exact ⟨i, row, hi, .inl rfl⟩

def ofRow (c : List (Nat × List UInt8)) (j : Nat) : List (List UInt8) := (c.filter fun x => x.1 == j).map (·.2)
theorem dropL_row (keep : List Bool) (torn cut : Int) (j : Nat) : ∀ (c : List (Nat × List UInt8)) (k : Nat) (pl F : List (List UInt8)) (row : List UInt8), pl[j]? = some row → row.length = 64 → (∀ x ∈ c, x.2.length = 64) →
    (row ∈ F ∨ (torn ≤ k ∧ MixL row F)) → ∃ row', (dropL keep torn cut k c pl)[j]? = some row' ∧ MixL row' (F ++ ofRow c j)
  | [], _, _, F, row, hr, _, _, hs => ⟨row, hr, by
      simp only [ofRow, List.filter_nil, List.map_nil, List.append_nil]
      exact hs.elim MixL.of_mem (·.2)⟩
  | (i, s) :: c, k, pl, F, row, hr, hl, hc, hst => by
    have hs : s.length = 64 := hc (i, s) (by simp)
    have hc' : ∀ x ∈ c, x.2.length = 64 := fun x hx => hc x (by simp [hx])
    rw [dropL]
    have hat := put1_at pl i s (amount keep torn cut k) j
    rw [hr] at hat
    simp only [Option.map_some] at hat
    by_cases hij : i = j
    · subst hij
      rw [if_pos rfl] at hat
      have e : F ++ ofRow ((i, s) :: c) i = (F ++ [s]) ++ ofRow c i := by simp [ofRow]
      rw [e]
      have hle : amount keep torn cut k ≤ 64 := by
        unfold amount clamp
        split
        · omega
        · split <;> omega
      refine dropL_row keep torn cut i c (k + 1) _ (F ++ [s]) _ hat (by simp [hs, hl]; omega) hc' ?_
      unfold amount
      by_cases h1 : (k : Int) + 1 = torn
      · rw [if_pos h1]
        have hm : row ∈ F := by
          rcases hst with h | h
          · exact h
          · omega
        obtain ⟨m, hm⟩ := List.mem_iff_getElem?.1 hm
        have hml := (List.getElem?_eq_some_iff.1 hm).1
        exact .inr ⟨by omega, F.length, s, by simp, .inr ⟨m, row, clamp cut, hml, at_app hm, by unfold clamp; omega, rfl⟩⟩
      · rw [if_neg h1]
        by_cases h2 : keep[k]? = some true
        · rw [if_pos h2]
          left
          rw [List.take_of_length_le (by omega), List.drop_of_length_le (by omega)]
          simp
        · rw [if_neg h2]
          simp only [List.take_zero, List.drop_zero, List.nil_append]
          rcases hst with h | ⟨h, h'⟩
          · exact .inl (by simp [h])
          · exact .inr ⟨by omega, h'.app _⟩
    · rw [if_neg hij] at hat
      have e : ofRow ((i, s) :: c) j = ofRow c j := by simp [ofRow, hij]
      rw [e]
      exact dropL_row keep torn cut j c (k + 1) _ F _ hat hl hc' (hst.imp id fun h => ⟨by omega, h.2⟩)

theorem MixL.bytes {row : List UInt8} {F : List (List UInt8)} (h : MixL row F) (h64 : ∀ x ∈ F, x.length = 64) : Mix (bs row) (F.map bs) := by
  obtain ⟨i, x, hi, h⟩ := h
  refine ⟨i, bs x, by simp [hi], h.imp (congrArg bs) ?_⟩
  rintro ⟨k, y, c, h1, h2, h3, rfl⟩
  refine ⟨k, bs y, c, h1, by simp [h2], h3, ba_ext ?_⟩
  have hy := h64 y (List.mem_of_getElem? h2)
  rw [ByteArray.data_append, Array.toList_append, extract_list, extract_list, bs_list, bs_list, bs_list, bs_size]
  simp [List.take_of_length_le]

/-- the i-th sector's bytes -/
theorem flat_row : ∀ {pl : List (List UInt8)} (_ : ∀ x ∈ pl, x.length = 64) {i : Nat} {r : List UInt8} (_ : pl[i]? = some r), (pl.flatten.drop (64 * i)).take 64 = r
  | x :: pl, h, 0, r, hi => by
    have hx := h x (by simp)
    simp only [List.getElem?_cons_zero, Option.some.injEq] at hi
    subst hi
    simp [hx]
  | x :: pl, h, i + 1, r, hi => by
    have hx := h x (by simp)
    simp only [List.getElem?_cons_succ] at hi
    have e : 64 * (i + 1) = x.length + 64 * i := by omega
    rw [List.flatten_cons, e, List.drop_append, List.drop_of_length_le (by omega), Nat.add_sub_cancel_left, List.nil_append]
    exact flat_row (fun y hy => h y (by simp [hy])) hi
  | [], _, _, _, hi => by simp at hi
theorem rows_row {pl : List (List UInt8)} (h : ∀ x ∈ pl, x.length = 64) {i : Nat} {r : List UInt8} (hi : pl[i]? = some r) : (rows pl).extract (64 * i) (64 * i + 64) = bs r := by
  apply ba_ext
  rw [extract_list, bs_list, Nat.add_sub_cancel_left]
  simp only [rows]
  exact flat_row h hi
theorem rows_size {pl : List (List UInt8)} (h : ∀ x ∈ pl, x.length = 64) : (rows pl).size = 64 * pl.length := by
  simp only [rows, ByteArray.size, List.size_toArray]
  induction pl with
  | nil => rfl
  | cons x pl ih =>
    rw [List.flatten_cons, List.length_append, ih (fun y hy => h y (by simp [hy])), h x (by simp), List.length_cons]
    omega

/-- what puts have written to a sector -/
def putsAt (i : Nat) (l : List (Int × ByteArray)) : List ByteArray := (l.filter fun x => x.1 == (i : Int)).map fun x => pad x.2
theorem puts_at {n i : Nat} (hi : i < n) : ∀ l : List (Int × ByteArray), putsAt i l = (ofRow (entries n l) i).map bs
  | [] => rfl
  | x :: l => by
    have ih := puts_at hi l
    unfold putsAt at ih ⊢
    unfold ofRow entries at ih ⊢
    rw [List.flatMap_cons, List.filter_append, List.map_append, List.map_append, ← ih]
    by_cases hx : x.1 = (i : Int)
    · have he : entry n x = [(i, padL x.2.data.toList)] := by
        unfold entry
        rw [if_pos (by omega), hx, Int.toNat_natCast]
      rw [he, List.filter_cons, if_pos (by simpa using hx)]
      simp [pad_bs]
    · rw [List.filter_cons, if_neg (by simpa using hx)]
      have he : (entry n x).filter (fun y => y.1 == i) = [] := by
        unfold entry
        split
        · rename_i h
          rw [List.filter_cons, if_neg (by simp; omega)]
          rfl
        · rfl
      rw [he]
      rfl
theorem entries_len {n : Nat} {l : List (Int × ByteArray)} : ∀ x ∈ entries n l, x.2.length = 64 := by
  intro x hx
  obtain ⟨y, _, hy⟩ := List.mem_flatMap.1 hx
  unfold entry at hy
  split at hy
  · rw [List.mem_singleton.1 hy]; exact padL_length _
  · cases hy

/-! ### Flushing a quiet disk -/
def DM.flushed (d : DM) : DM := { d.fell with plat := flushL d.cache d.plat, cache := [] }
theorem flush_quiet {d : DM} (h : Quiet d) (hp : 0 < d.plat.length) : d.flush = (d.flushed, 0) ∧ Quiet d.flushed := by
  have hr : d.ready 0 = 0 := by
    simp only [DM.ready, h.dead]
    rw [if_neg (by decide), if_neg (by omega)]
  have e : d.flush = (d.flushed, 0) := by
    unfold DM.flush
    rw [if_neg (by simp [hr]), if_neg (by rw [h.armed]; decide)]
    rfl
  refine ⟨e, h.dead, ?_⟩
  show (if d.armed = 0 then (0 : Int) else d.armed - 1) = 0
  rw [if_pos h.armed]
theorem ready_quiet {d : DM} (h : Quiet d) (hp : 0 < d.plat.length) : d.ready 0 = 0 := by
  simp only [DM.ready, h.dead]
  rw [if_neg (by decide), if_neg (by omega)]
theorem new_len {n : Nat} : ∀ x ∈ (DM.new n).plat, x.length = 64 := fun x hx => by
  rw [(List.mem_replicate.1 hx).2]; simp

end Go.Proofs.Ytmklfedlifcoiaa
