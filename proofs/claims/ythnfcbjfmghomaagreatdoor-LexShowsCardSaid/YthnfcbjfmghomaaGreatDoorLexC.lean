/- The library's answers, and what stands on them: signs, digits, code points. -/
import Derived.Test.YthnfcbjfmghomaaGreatDoorLexB
import Derived.Test.YthnfcbjfmghomaaGreatDoorUtf
import Derived.Test.YthnfcbjfmghomaaGreatDoorShelf
import Derived.Shelf.Strings.SlTrimAscii
namespace Go.Lift
theorem made_rep (c : Value) (k n : Nat) (hk : 0 < k) : (madeCells (Array.replicate k c) n).toList = List.replicate n c := by
  rw [List.eq_replicate_iff]
  refine ⟨by simp [madeCells], fun b hb => ?_⟩
  simp only [madeCells, Array.toList_map, List.mem_map] at hb
  obtain ⟨a, _, rfl⟩ := hb
  have : a % k < k := Nat.mod_lt _ hk
  simp [this]
theorem fr_below {w w' : World} (h : RowKit.Below w.heap.size w w') : Fr noB w w' := ⟨h.os, h.output, h.size, fun k hk _ => h.block k hk⟩
theorem fr_drewN (w : World) (n : Nat) : Fr noB w (w.drewN n) := ⟨rfl, rfl, Nat.le_refl _, fun _ _ _ => rfl⟩
/-- what a type's row says -/
def rowSays (P : Program) (t : TypeId) (size bytes : Nat) (z : Array Value) : Prop := ∃ i v, P.info? t = some i ∧ i.zero = some v ∧ i.size = size ∧ i.bytes = bytes ∧ v.cells = z
theorem rowSays_of {P : Program} {t : TypeId} {size bytes : Nat} {z : Array Value} (h : (P.info? t).map (fun i => (i.size, i.bytes, i.zero.map (·.cells))) = some (size, bytes, some z)) : rowSays P t size bytes z := by
  cases hi : P.info? t with
  | none => rw [hi] at h; cases h
  | some i =>
    rw [hi] at h
    simp only [Option.map_some, Option.some.injEq, Prod.mk.injEq] at h
    cases hz : i.zero with
    | none => rw [hz] at h; simp at h
    | some v => rw [hz] at h; exact ⟨i, v, hi, hz, h.1, h.2.1, by simpa using h.2.2⟩
end Go.Lift
namespace Go.Proofs.YthnfcbjfmghomaaGreatDoor
open Go.Lift Go.Lex
theorem us : Tryz.prog.underlying 9 = some .string := by kernel_rfl
theorem uInts : Tryz.prog.underlying 60 = some (.slice 3) := by kernel_rfl
theorem rInt : rowSays Tryz.prog 3 1 8 #[.int .i64 0] := rowSays_of (by kernel_rfl)

/-- what the library's package-level variables hold -/
structure Glob (w : World) : Prop where
  len : ∃ m : Int, w.cell? ⟨0, 0, none⟩ = some (.int .i64 m)
  tabs : Lib.Utf8Tabs 1 2 w
theorem Glob.fr {w w' : World} (h : Glob w) (F : Fr noB w w') : Glob w' :=
  ⟨h.len.imp fun _ hm => F.cell hm (fun h => h), fun c hc => F.cell (h.tabs.1 c hc) (fun h => h), fun i hi => ⟨F.cell (h.tabs.2 i hi).1 (fun h => h), F.cell (h.tabs.2 i hi).2 (fun h => h)⟩⟩

def ten : B := [48, 49, 50, 51, 52, 53, 54, 55, 56, 57]
theorem ten_has (b : UInt8) : ten.contains b = digit b := by
  unfold ten digit
  rw [Bool.eq_iff_iff]
  simp only [List.contains_cons, List.contains_nil, Bool.or_false, Bool.or_eq_true, beq_iff_eq, decide_eq_true_eq, ← UInt8.toNat_inj]
  simp only [UInt8.reduceToNat]
  omega
theorem trimS_nil {l cs : B} : Lib.trimS l cs = [] ↔ l.all cs.contains = true := by
  have dw : ∀ (p : UInt8 → Bool) (l : B), l.dropWhile p = [] ↔ l.all p = true := fun p l => by
    induction l with
    | nil => simp
    | cons x l ih =>
      rw [List.dropWhile_cons]
      cases hx : p x
      · simp [hx]
      · simp only [if_true, ih, List.all_cons, hx, Bool.true_and]
  unfold Lib.trimS Lib.trimLeftS Lib.trimRightS
  rw [dw]
  constructor
  · intro h
    rw [List.all_eq_true] at h ⊢
    intro x hx
    by_cases hc : cs.contains x = true
    · exact hc
    · refine absurd (h x ?_) hc
      rw [List.mem_reverse]
      have hr := List.mem_reverse.2 hx
      rw [← List.takeWhile_append_dropWhile (p := (cs.contains ·)) (l := l.reverse)] at hr
      rcases List.mem_append.1 hr with hr | hr
      · exact absurd (List.all_eq_true.1 List.all_takeWhile x hr) hc
      · exact hr
  · intro h
    have : l.reverse.dropWhile (cs.contains ·) = [] := (dw _ _).2 (by rw [List.all_reverse]; exact h)
    rw [this]
    rfl
theorem ten_all (l : B) : l.all ten.contains = l.all digit := by
  congr 1
  funext b
  exact ten_has b

section
variable {w : World}
theorem trim_ok (s : ByteArray) (hs : s.size < 4611686018427387904) : Calls Tryz.prog 50 #[.string s, .string (bs ten)] w fun e w' => e = .returned (.string (bs (Lib.trimS (bl s) ten))) ∧ Fr noB w w' := by
  have h := Any.strings_Trim_ascii Tryz.lays160 (fun _ => by kernel_rfl) (by kernel_rfl) s (bs ten) w (by omega) (by decide) (fun j b hb => by
    have hm : b ∈ ten := List.mem_of_getElem? hb
    have := ten_has b
    rw [List.contains_iff_mem.2 hm] at this
    have hd := of_decide_eq_true this.symm
    omega)
  exact h.mono fun e w' ⟨he, hb⟩ => ⟨he, fr_below hb⟩
theorem digits_ok (s : ByteArray) (hs : s.size < 4611686018427387904) : AnsB 73 #[.string s] w (digits (bl s)) := by
  apply c73
  unfold t73
  refine join1_ok (c := .bool) (fun (b : Bool) w' => b = digits (bl s) ∧ Fr noB w w') (fun k hk => ?_) (fun b w' h => done_b h)
  rw [eq_bl, bl_empty]
  rcases bl_cases s with hb | ⟨x, l, hb⟩
  · exact ite_no (by rw [hb]; rfl) (hk _ _ ⟨by rw [hb]; rfl, Fr.refl _ _⟩)
  · refine ite_yes (by rw [hb]; rfl) (callS_ok (trim_ok s hs) fun w1 F1 => hk _ _ ⟨?_, F1⟩)
    rw [eq_bl, bl_empty, bl_bs]
    have hd : digits (bl s) = (bl s).all digit := by unfold digits; rw [hb]; rfl
    rw [hd, ← ten_all, Bool.eq_iff_iff, ← trimS_nil, beq_iff_eq]

theorem index_has : ∀ (l : B) (c : UInt8), (0 ≤ Lib.indexByte l c) ↔ c ∈ l
  | [], c => by simp [Lib.indexByte]
  | b :: l, c => by
    have ih := index_has l c
    have hg := Lib.indexByte_ge l c
    unfold Lib.indexByte
    by_cases h : b = c
    · subst h; simp
    · have h' : ¬ c = b := fun e => h e.symm
      simp only [beq_iff_eq, h, if_false, List.mem_cons, h', false_or]
      rw [← ih]
      split
      · rename_i e; rw [e]
      · omega
theorem Sign_ok (s : ByteArray) : AnsB 12 #[.string s] w (isSign (bl s)) := by
  apply c12
  unfold t12
  simp only [eq_bl]
  refine join0_ok (fun w' => isSign (bl s) = (decide (s.size = 1) && isSign (bl s)) ∧ Fr noB w w') (fun k1 hk1 => ?_) ?_
  · refine join1_ok (c := .bool) (fun (b : Bool) w' => b = (bl s == [60, 61] || (bl s == [62, 61] || bl s == [45, 62])) ∧ Fr noB w w') (fun k2 hk2 => ?_) ?_
    · refine ite_ok (fun h => hk2 _ _ ⟨?_, Fr.refl _ _⟩) fun h => ?_
      · have h' : (bl s == [60, 61]) = true := h
        rw [h', h]; rfl
      · have h' : (bl s == [60, 61]) = false := h
        refine join1_ok (c := .bool) (fun (b : Bool) w' => b = (bl s == [62, 61] || bl s == [45, 62]) ∧ Fr noB w w') (fun k3 hk3 => ?_) (fun b w' hb => hk2 _ _ ⟨by rw [h', hb.1]; rfl, hb.2⟩)
        refine ite_ok (fun h2 => hk3 _ _ ⟨?_, Fr.refl _ _⟩) fun h2 => hk3 _ _ ⟨?_, Fr.refl _ _⟩
        · have h2' : (bl s == [62, 61]) = true := h2
          rw [h2', h2]; rfl
        · have h2' : (bl s == [62, 61]) = false := h2
          rw [h2']; rfl
    rintro b w1 ⟨hb, F1⟩
    refine ite_ok (fun h => ⟨?_, F1⟩) fun h => hk1 _ ⟨?_, F1⟩
    · rw [h] at hb
      have : isSign (bl s) = true := by
        unfold isSign
        rw [List.contains_iff_mem]
        have hb := hb.symm
        simp only [Bool.or_eq_true, beq_iff_eq] at hb
        rcases hb with hb | hb | hb <;> rw [hb] <;> decide
      rw [this]
    · rw [h] at hb
      have hb := hb.symm
      simp only [Bool.or_eq_false_iff, beq_eq_false_iff_ne] at hb
      obtain ⟨h1, h2, h3⟩ := hb
      cases hd : isSign (bl s) with
      | false => simp
      | true =>
        unfold isSign signs at hd
        have hd := List.contains_iff_mem.1 hd
        have hl := bl_length s
        have : s.size = 1 := by
          rw [← hl]
          simp only [List.mem_cons, h1, h2, h3, List.not_mem_nil, or_false, false_or] at hd
          rcases hd with hd | hd | hd | hd | hd | hd | hd | hd | hd | hd | hd | hd | hd | hd | hd | hd | hd <;> rw [hd] <;> rfl
        simp [this]
  rintro w1 ⟨hs1, F1⟩
  refine join1_ok (c := .bool) (fun (b : Bool) w' => b = isSign (bl s) ∧ Fr noB w w') (fun k hk => ?_) (fun b w' h => done_b h)
  refine ite_ok (fun h => ?_) fun h => hk _ _ ⟨?_, F1⟩
  · have h1 : s.size = 1 := by have : (s.size : Int) = 1 := by simpa using h
                               omega
    obtain ⟨c, hc⟩ : ∃ c, bl s = [c] := by
      have hl := bl_length s
      rw [h1] at hl
      match hb : bl s, hl with
      | [c], _ => exact ⟨c, rfl⟩
    have hsc : s = ⟨#[c]⟩ := by rw [← bs_bl s, hc]; rfl
    have hcall := Tryz.strings_Contains_one (bs [40, 41, 123, 125, 91, 93, 60, 62, 61, 94, 42, 44, 58, 46, 47, 64, 124]) c w1
    rw [← hsc] at hcall
    refine callB_ok hcall fun w2 hw => hk _ _ ⟨?_, hw ▸ F1⟩
    rw [hc, Bool.eq_iff_iff, decide_eq_true_eq, index_has]
    show c ∈ bl (bs _) ↔ _
    rw [bl_bs]
    unfold isSign signs
    rw [List.contains_iff_mem]
    simp only [List.mem_cons, List.cons.injEq, List.not_mem_nil, or_false, and_true, reduceCtorEq, and_false, false_or, or_false]
  · have h1 : ¬ s.size = 1 := by intro e; rw [e] at h; simp at h
    rw [hs1, decide_eq_false h1]
    rfl

/-! ### Code points -/
theorem get_at (s : ByteArray) (i : Nat) : (s.get! i).toNat = at0 (bl s) i := by
  unfold at0
  congr 1
  cases s with
  | mk d =>
    rw [List.getD_eq_getElem?_getD]
    show d[i]! = _
    simp only [bl]
    by_cases h : i < d.size
    · rw [getElem!_pos d i h]
      simp [h]
    · rw [getElem!_neg d i h]
      simp [h]
      rfl
theorem decode_utf (s : ByteArray) (hs : 0 < s.size) : (utfLen (bl s) = 0 → Lib.decodeGo s = (65533, 1)) ∧ (0 < utfLen (bl s) → (Lib.decodeGo s).2 = utfLen (bl s) ∧ ¬ ((Lib.decodeGo s).1 = 65533 ∧ (Lib.decodeGo s).2 = 1) ∧ (Lib.decodeGo s).1 < 1114112) := by
  have hne : bl s ≠ [] := fun e => by have := bl_eq_nil.1 e; omega
  unfold Lib.decodeGo
  rw [if_neg (by omega), Lib.decode_at, utfLen_N hne, bl_length]
  simp only [get_at, Nat.sub_zero, Nat.zero_add]
  have hb : ∀ i, at0 (bl s) i < 256 := fun i => u8_lt _
  exact decodeN_utf _ _ _ _ _ (hb 0) (hb 1) (hb 2) (hb 3) hs
def utfFault (l : B) : Int × Int := match utfBad l with
  | none => (0, 0)
  | some k => (30, (k : Int))

set_option maxHeartbeats 1000000 in
theorem Decode_ok (s : ByteArray) (hs : s.size ≤ 1000000) (hg : Glob w) : Calls Tryz.prog 45 #[.string s] w fun e w' =>
    ∃ sl : Sl, e = .returned (.tuple #[.slice sl.a sl.n sl.c, .agg #[.int .i64 (utfFault (bl s)).1, .int .i64 (utfFault (bl s)).2]]) ∧ Fr noB w w' := by
  have hsl := bl_length s
  apply c45
  unfold t45
  refine new_ok fun w1 m1 hm1 hs1 B1 F1 => ?_
  obtain ⟨i, z, hi, hz, h1, h2, h3⟩ := rInt
  refine make_ok uInts hi hz (by omega) (by omega) (by rw [h2]; omega) (by omega) fun w2 b hb hs2 B2 F2 => ?_
  rw [h3, h1, show (#[Value.int .i64 0] : Array Value) = Array.replicate 1 (.int .i64 0) from rfl, made_rep _ _ _ (by omega), Nat.mul_one] at B2
  have B12 := B1.fr F2 (fun h => h)
  have hw1 : w1.heap.size ≤ w2.heap.size := F2.size
  -- behind the loop
  have stop : ∀ (l : Sl) (a : Nat) (w3 : World), a ≤ s.size → Fr noB w1 w3 → (a < s.size → utfBad (bl s) = some a) → (a = s.size → utfBad (bl s) = none) →
      iteG (Decidable.decide ((a : Int) < (↑(ByteArray.size s) : Int)))
        (stG (Addr.mk m1 0 Option.none) (Value.int IntKind.i64 (30 : Int)) (stG (Addr.mk m1 1 Option.none) (Value.int IntKind.i64 (a : Int)) (ldG (CT.int IntKind.i64) (Addr.mk m1 0 Option.none) (fun (n19 : Int) => ldG (CT.int IntKind.i64) (Addr.mk m1 1 Option.none)
          (fun (n20 : Int) => retG (Value.tuple #[(Value.slice Option.none 0 0), (Value.agg #[(Value.int IntKind.i64 n19), (Value.int IntKind.i64 n20)])]))))))
        (stG (Addr.mk m1 0 Option.none) (Value.int IntKind.i64 (0 : Int)) (stG (Addr.mk m1 1 Option.none) (Value.int IntKind.i64 (0 : Int)) (ldG (CT.int IntKind.i64) (Addr.mk m1 0 Option.none) (fun (n21 : Int) => ldG (CT.int IntKind.i64) (Addr.mk m1 1 Option.none)
          (fun (n22 : Int) => retG (Value.tuple #[(Value.slice (Sl.a l) (Sl.n l) (Sl.c l)), (Value.agg #[(Value.int IntKind.i64 n21), (Value.int IntKind.i64 n22)])]))))))
        (fun e w' => ∃ sl : Sl, e = .returned (.tuple #[.slice sl.a sl.n sl.c, .agg #[.int .i64 (utfFault (bl s)).1, .int .i64 (utfFault (bl s)).2]]) ∧ Fr noB w w') w3 := by
    intro l a w3 ha F3 hbad hgood
    have B3 := B1.fr F3 (fun h => h)
    refine ite_ok (fun h => ?_) fun h => ?_
    · have h : a < s.size := by simp only [decide_eq_true_eq] at h; omega
      refine B3.st (o := 0) rfl (by simp) fun w4 B4 F4 => B4.st (o := 1) rfl (by simp) fun w5 B5 F5 => B5.ld (o := 0) rfl (B5.ld (o := 1) rfl ⟨⟨none, 0, 0⟩, ?_, ?_⟩)
      · unfold utfFault
        rw [hbad h]
      · exact ((F1.tr F3).then F4 fun y hy e => by unfold oneB at e; omega).then F5 fun y hy e => by unfold oneB at e; omega
    · have h : a = s.size := by simp only [decide_eq_false_iff_not] at h; omega
      refine B3.st (o := 0) rfl (by simp) fun w4 B4 F4 => B4.st (o := 1) rfl (by simp) fun w5 B5 F5 => B5.ld (o := 0) rfl (B5.ld (o := 1) rfl ⟨l, ?_, ?_⟩)
      · unfold utfFault
        rw [hgood h]
      · exact ((F1.tr F3).then F4 fun y hy e => by unfold oneB at e; omega).then F5 fun y hy e => by unfold oneB at e; omega
  refine loop_ok (vs := [.one .slice, .one (.int .i64)])
    (fun xs w' => ∃ (a n : Nat) (ys : List Value), (show Int from xs.2.1.1) = (a : Int) ∧ a ≤ s.size ∧ n ≤ a ∧ w'.ownsRow w1.heap.size 3 1 (.slice (show Sl from xs.1.1).a (show Sl from xs.1.1).n (show Sl from xs.1.1).c) n ys ∧ Fr noB w1 w' ∧
      utfBad (bl s) = (utfBad ((bl s).drop a)).map (· + a))
    (fun xs => s.size - (show Int from xs.2.1.1).toNat) ?_ (xs := ((_, ()), ((_, ()), ())))
    ⟨0, 0, [], rfl, Nat.zero_le _, Nat.le_refl _, ⟨rfl, .inr ⟨b, s.size, _, by simp, by omega, B2, Nat.zero_le _, by unfold maxLen; omega, by simp, rfl⟩⟩, F2, by simp⟩
  rintro rec ⟨⟨l, ⟨⟩⟩, ⟨⟨j, ⟨⟩⟩, ⟨⟩⟩⟩ w3 ⟨a, n, ys, hj, ha, hn, hown, F3, hmap⟩ hrec
  change Int at j
  change Sl at l
  change j = (a : Int) at hj
  change w3.ownsRow _ _ _ (.slice l.a l.n l.c) _ _ at hown
  subst hj
  refine ite_ok (fun hlt => ?_) fun hge => stop l a w3 ha F3 (fun h => ?_) (fun h => ?_)
  rotate_left
  · have hge : ¬ ((a : Int) < (s.size : Int)) := of_decide_eq_false hge
    omega
  · rw [hmap, h, ← hsl, List.drop_length]; rfl
  have hlt : a < s.size := by
    have hlt : ((a : Int) < (s.size : Int)) := of_decide_eq_true hlt
    omega
  refine join_in (sub_ok (s := s) (l := (a : Int)) (by omega) (by omega) (by omega) ?_)
  have e8 : bl (s.extract ((a : Int)).toNat ((s.size : Int)).toNat) = (bl s).drop a := by
    rw [bl_extract]
    apply List.take_of_length_le
    rw [List.length_drop, hsl]
    omega
  generalize hs8 : s.extract ((a : Int)).toNat ((s.size : Int)).toNat = s8 at *
  have hz8 : s8.size = s.size - a := by rw [← bl_length, e8, List.length_drop, hsl]
  have hd := decode_utf s8 (by omega)
  rw [e8] at hd
  have hgl := (hg.fr (F1.tr F3)).tabs
  refine call_ok (Tryz.utf8_DecodeRuneInString s8 w3 hgl) ?_
  rintro _ w4 ⟨rfl, hbel⟩
  have F4 := fr_below hbel
  refine ⟨((((Lib.decodeGo s8).1 : Int), ()), ((((Lib.decodeGo s8).2 : Int), ()), ())), rfl, ?_⟩
  by_cases hu : utfLen ((bl s).drop a) = 0
  · rw [hd.1 hu]
    refine join1_ok (c := .bool) (fun (b : Bool) w' => b = true ∧ w' = w4) (fun k hk => ite_yes (y := k false) rfl (hk _ _ ⟨rfl, rfl⟩)) ?_
    rintro b w' ⟨rfl, hw⟩
    replace hw := hw.symm
    subst hw
    refine ite_yes rfl (stop l a w4 ha (F3.tr F4) (fun _ => ?_) (fun h => by omega))
    rw [hmap, utfBad_bad (fun e => by have := congrArg List.length e; rw [List.length_drop, hsl] at this; simp at this; omega) hu]
    simp
  · obtain ⟨g2, g1, g3⟩ := hd.2 (by omega)
    have hle := utfLen_le ((bl s).drop a)
    rw [List.length_drop, hsl] at hle
    generalize hdc : Lib.decodeGo s8 = rn at *
    obtain ⟨r, n'⟩ := rn
    simp only at g1 g2 g3
    subst g2
    refine join1_ok (c := .bool) (fun (b : Bool) w' => b = false ∧ w' = w4) (fun k hk => ite_ok (fun h => hk _ _ ⟨?_, rfl⟩) fun h => hk _ _ ⟨rfl, rfl⟩) ?_
    · have h : r = 65533 := by have : ((r : Nat) : Int) = 65533 := by simpa using h
                               omega
      refine beq_eq_false_iff_ne.2 fun e => g1 ⟨h, ?_⟩
      omega
    rintro b w' ⟨rfl, hw⟩
    replace hw := hw.symm
    subst hw
    refine ite_no rfl (new_ok fun w5 m13 hm13 hs5 B13 F5 => ?_)
    have F35 := F4.tr F5
    refine appendB_ok uInts hi hz h1 h2 (by rw [h3]; rfl) (by omega) (s := ⟨l.a, l.n, l.c⟩) (own_fr0 hown F35) (m := 1) (news := [.int .i64 (IntKind.wrap .i64 (r : Int))]) rfl (B13.held fun j v hj => by rw [Nat.zero_add]; exact hj) (fun u hu => by rw [List.mem_singleton.1 hu]; rfl) (by unfold maxLen; omega) (by omega)
      (by have := F3.size; have := F35.size; omega) fun l' w6 hown6 F6 => ?_
    rw [wrap_ok (n := (a : Int) + ((utfLen ((bl s).drop a) : Nat) : Int)) (by omega) (by omega)]
    have e1 : (a : Int) + ((utfLen ((bl s).drop a) : Nat) : Int) = ((a + utfLen ((bl s).drop a) : Nat) : Int) := by omega
    rw [e1]
    refine hrec ((_, ()), ((_, ()), ())) w6 ⟨a + utfLen ((bl s).drop a), n + 1, _, rfl, by omega, by omega, hown6, (F3.tr F35).then F6 (fun y hy h => by omega), ?_⟩ ?_
    · have hpos : 0 < utfLen ((bl s).drop a) := by omega
      have hst := utfBad_step hpos rfl
      rw [List.drop_drop] at hst
      rw [hmap, hst]
      cases utfBad ((bl s).drop (a + utfLen ((bl s).drop a))) with
      | none => rfl
      | some x => simp only [Option.map_some, Option.some.injEq]; omega
    · show s.size - ((a + utfLen ((bl s).drop a) : Nat) : Int).toNat < s.size - ((a : Nat) : Int).toNat
      simp only [Int.toNat_natCast]
      omega
end
end Go.Proofs.YthnfcbjfmghomaaGreatDoor
