/- Bytes, texts and lists. No condition. -/
import Derived.Test.YthnfcbjfmghomaaGreatDoorCall
namespace Go.Lift
def bs (l : List UInt8) : ByteArray := ⟨l.toArray⟩
def bl (s : ByteArray) : List UInt8 := s.data.toList
theorem ba_ext {a b : ByteArray} (h : bl a = bl b) : a = b := by
  have : a.data = b.data := Array.toList_inj.1 h
  cases a; cases b; cases this; rfl
theorem bl_bs (l : List UInt8) : bl (bs l) = l := by simp [bl, bs]
theorem bs_bl (s : ByteArray) : bs (bl s) = s := ba_ext (bl_bs _)
theorem bs_size (l : List UInt8) : (bs l).size = l.length := by simp [bs, ByteArray.size]
theorem bl_length (s : ByteArray) : (bl s).length = s.size := Array.length_toList
theorem bl_extract (s : ByteArray) (a b : Nat) : bl (s.extract a b) = ((bl s).drop a).take (b - a) := by
  simp only [bl, ByteArray.data_extract, Array.toList_extract, List.extract_eq_take_drop]
theorem bl_append (a b : ByteArray) : bl (a ++ b) = bl a ++ bl b := by simp [bl, ByteArray.data_append]
theorem bs_append (a b : List UInt8) : bs a ++ bs b = bs (a ++ b) := ba_ext (by rw [bl_append, bl_bs, bl_bs, bl_bs])
theorem bl_inj {a b : ByteArray} : bl a = bl b ↔ a = b := ⟨ba_ext, fun h => h ▸ rfl⟩
theorem bs_inj {a b : List UInt8} : bs a = bs b ↔ a = b := ⟨fun h => by rw [← bl_bs a, h, bl_bs], fun h => h ▸ rfl⟩
theorem bl_mk (l : List UInt8) : bl ⟨l.toArray⟩ = l := bl_bs l
/-- the byte at a place, as the model has it -/
theorem byteAt_bl (s : ByteArray) (i : Nat) : byteAt s (i : Int) = (((bl s).getD i 0).toNat : Int) := by simp [byteAt, bl]
theorem toList_loop : ∀ (n : Nat) (bs : ByteArray) (i : Nat) (r : List UInt8), bs.size - i = n → ByteArray.toList.loop bs i r = r.reverse ++ (bs.data.toList.drop i)
  | 0, bs, i, r, h => by
    rw [ByteArray.toList.loop, if_neg (by omega), List.drop_of_length_le (by have h2 : bs.data.toList.length = bs.size := Array.length_toList; omega), List.append_nil]
  | n + 1, bs, i, r, h => by
    have hi : i < bs.size := by omega
    have hi' : i < bs.data.toList.length := by have h2 : bs.data.toList.length = bs.size := Array.length_toList; omega
    rw [ByteArray.toList.loop, if_pos hi, toList_loop n bs (i + 1) _ (by omega), List.drop_eq_getElem_cons hi']
    have e : bs.get! i = bs.data.toList[i] := by
      cases bs
      simp only [ByteArray.get!]
      simp
      rw [getElem!_pos]
    rw [e]
    simp
theorem toList_bl (s : ByteArray) : ByteArray.toList s = bl s := by
  unfold ByteArray.toList
  rw [toList_loop _ s 0 [] rfl]
  rfl
/-- two texts held against each other, as the model has it -/
theorem eq_bl (a b : ByteArray) : (ByteArray.toList a == ByteArray.toList b) = (bl a == bl b) := by rw [toList_bl, toList_bl]
theorem u8_lt (b : UInt8) : b.toNat < 256 := b.toNat_lt
theorem u8_eq {a b : UInt8} : (a.toNat : Int) = b.toNat ↔ a = b := ⟨fun h => UInt8.toNat_inj.1 (by omega), fun h => h ▸ rfl⟩

/-! ### Trees of tests -/
theorem ite_true (x y : G) : iteG true x y = x := rfl
theorem ite_false (x y : G) : iteG false x y = y := rfl
/-- a bool that two ways hand on -/
theorem join_bool {b c : Bool} {k : Bool → G} {R : Ending → World → Prop} {w : World} (h : k (b || c) R w) : joinG [.one .bool] (fun k' => iteG b (k' true) (k' c)) k R w := by
  cases b <;> exact h
/-- one round more, at the world as it is -/
theorem ret_bool {b : Bool} {R : Ending → World → Prop} {w : World} (h : R (.returned (.bool b)) w) : retG (.bool b) R w := h
/-- a loop over a counter -/
theorem count_ok {body : (Int → G) → Int → G} {R : Ending → World → Prop} {w : World} (n : Nat) (hn : n < 4611686018427387904) (I : Nat → World → Prop)
    (hbody : ∀ (rec : Int → G) (k : Nat) (w : World), k ≤ n → I k w → (k < n → ∀ w', I (k + 1) w' → rec (IntKind.wrap .i64 ((k : Int) + 1)) R w') → body rec (k : Int) R w)
    (h : I 0 w) : loopG [.one (.int .i64)] body (0 : Int) R w := by
  refine loop1_ok (c := .int .i64) (fun (i : Int) w' => ∃ k : Nat, i = (k : Int) ∧ k ≤ n ∧ I k w') (fun (i : Int) => n - i.toNat) ?_ ⟨0, rfl, Nat.zero_le _, h⟩
  rintro rec i w1 ⟨k, rfl, hk, hI⟩ hrec
  refine hbody rec k w1 hk hI fun hlt w' hI' => ?_
  have e : IntKind.wrap .i64 ((k : Int) + 1) = ((k + 1 : Nat) : Int) := by rw [wrap_ok (by omega) (by omega)]; omega
  rw [e]
  exact hrec _ _ ⟨k + 1, rfl, hlt, hI'⟩ (by simp only [Int.toNat_natCast]; omega)
end Go.Lift
