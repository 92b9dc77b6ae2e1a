/- The law behind: one part of its proof (joined by program out of my own texts). No condition. -/
import Derived.Test.YtngfnokbdcjoeaaGreatDoorVatAI
import Derived.Shelf.Strings.SlTrimAscii
section
namespace Go.Lift
theorem made_rep (c : Value) (k n : Nat) (hk : 0 < k) : (madeCells (Array.replicate k c) n).toList = List.replicate n c := by
 rw [List.eq_replicate_iff]
 refine ⟨by simp [madeCells], fun b hb => ?_⟩
 simp only [madeCells, Array.toList_map, List.mem_map] at hb
 obtain ⟨a, _, rfl⟩ := hb
 have : a % k < k := Nat.mod_lt _ hk
 simp [this]
theorem fr_below {w w' : World} (h : RowKit.Below w.heap.size w w') : Fr noB w w' := ⟨h.os, h.output, h.size, fun k hk _ => h.block k hk⟩
theorem fr_drewN (w : World) (n : Nat) : Fr noB w (w.drewN n) := ⟨rfl, rfl, Nat.le_refl _, fun _ _ _ => rfl⟩
def rowSays (P : Program) (t : TypeId) (size bytes : Nat) (z : Array Value) : Prop := ∃ i v, P.info? t = some i ∧ i.zero = some v ∧ i.size = size ∧ i.bytes = bytes ∧ v.cells = z
theorem rowSays_of {P : Program} {t : TypeId} {size bytes : Nat} {z : Array Value} (h : (P.info? t).map (fun i => (i.size, i.bytes, i.zero.map (·.cells))) = some (size, bytes, some z)) : rowSays P t size bytes z := by
 cases hi : P.info? t with
 | none => rw [hi] at h; cases h
 | some i =>
  rw [hi] at h
  simp only [Option.map_some, Option.some.injEq, Prod.mk.injEq] at h
  cases hz : i.zero with
  | none => rw [hz] at h; simp at h
  | some v => rw [hz] at h; exact ⟨i, v, hi, hz, h.1, h.2.1, by simpa using h.2.2⟩
end Go.Lift
namespace Go.Proofs.YtngfnokbdcjoeaaGreatDoor
open Go.Lift Go.Lex
theorem us : Tryz.prog.underlying 9 = some .string := by kernel_rfl
theorem uInts : Tryz.prog.underlying 62 = some (.slice 3) := by kernel_rfl
theorem rInt : rowSays Tryz.prog 3 1 8 #[.int .i64 0] := rowSays_of (by kernel_rfl)
structure Glob (w : World) : Prop where
 len : ∃ m : Int, w.cell? ⟨0, 0, none⟩ = some (.int .i64 m)
 tabs : Lib.Utf8Tabs 2 3 w
theorem Glob.fr {w w' : World} (h : Glob w) (F : Fr noB w w') : Glob w' :=
 ⟨h.len.imp fun _ hm => F.cell hm (fun h => h), fun c hc => F.cell (h.tabs.1 c hc) (fun h => h), fun i hi => ⟨F.cell (h.tabs.2 i hi).1 (fun h => h), F.cell (h.tabs.2 i hi).2 (fun h => h)⟩⟩
def ten : B := [48, 49, 50, 51, 52, 53, 54, 55, 56, 57]
theorem ten_has (b : UInt8) : ten.contains b = digit b := by
 unfold ten digit
 rw [Bool.eq_iff_iff]
 simp only [List.contains_cons, List.contains_nil, Bool.or_false, Bool.or_eq_true, beq_iff_eq, decide_eq_true_eq, ← UInt8.toNat_inj]
 simp only [UInt8.reduceToNat]
 omega
theorem trimS_nil {l cs : B} : Lib.trimS l cs = [] ↔ l.all cs.contains = true := by
 have dw : ∀ (p : UInt8 → Bool) (l : B), l.dropWhile p = [] ↔ l.all p = true := fun p l => by
  induction l with
  | nil => simp
  | cons x l ih =>
   rw [List.dropWhile_cons]
   cases hx : p x
   ·simp [hx]
   ·simp only [if_true, ih, List.all_cons, hx, Bool.true_and]
 unfold Lib.trimS Lib.trimLeftS Lib.trimRightS
 rw [dw]
 constructor
 ·intro h
  rw [List.all_eq_true] at h ⊢
  intro x hx
  by_cases hc : cs.contains x = true
  ·exact hc
  ·refine absurd (h x ?_) hc
   rw [List.mem_reverse]
   have hr := List.mem_reverse.2 hx
   rw [← List.takeWhile_append_dropWhile (p := (cs.contains ·)) (l := l.reverse)] at hr
   rcases List.mem_append.1 hr with hr | hr
   ·exact absurd (List.all_eq_true.1 List.all_takeWhile x hr) hc
   ·exact hr
 ·intro h
  have : l.reverse.dropWhile (cs.contains ·) = [] := (dw _ _).2 (by rw [List.all_reverse]; exact h)
  rw [this]
  rfl
theorem ten_all (l : B) : l.all ten.contains = l.all digit := by
 congr 1
 funext b
 exact ten_has b
section
variable {w : World}
theorem trim_ok (s : ByteArray) (hs : s.size < 4611686018427387904) : Calls Tryz.prog 182 #[.string s, .string (bs ten)] w fun e w' => e = .returned (.string (bs (Lib.trimS (bl s) ten))) ∧ Fr noB w w' := by
 have h := Any.strings_Trim_ascii Tryz.lays160 (fun _ => by kernel_rfl) (by kernel_rfl) s (bs ten) w (by omega) (by decide) (fun j b hb => by
  have hm : b ∈ ten := List.mem_of_getElem? hb
  have := ten_has b
  rw [List.contains_iff_mem.2 hm] at this
  have hd := of_decide_eq_true this.symm
  omega)
 exact h.mono fun e w' ⟨he, hb⟩ => ⟨he, fr_below hb⟩
theorem digits_ok (s : ByteArray) (hs : s.size < 4611686018427387904) : AnsB 212 #[.string s] w (digits (bl s)) := by
 apply c212
 unfold t212 tvZ caSZ jnBZ
 refine join1_ok (c := .bool) (fun (b : Bool) w' => b = digits (bl s) ∧ Fr noB w w') (fun k hk => ?_) (fun b w' h => done_b h)
 rw [eq_bl, bl_empty]
 rcases bl_cases s with hb | ⟨x, l, hb⟩
 ·exact ite_no (by rw [hb]; rfl) (hk _ _ ⟨by rw [hb]; rfl, Fr.refl _ _⟩)
 ·refine ite_yes (by rw [hb]; rfl) (callS_ok (trim_ok s hs) fun w1 F1 => hk _ _ ⟨?_, F1⟩)
  rw [eq_bl, bl_empty, bl_bs]
  have hd : digits (bl s) = (bl s).all digit := by unfold digits; rw [hb]; rfl
  rw [hd, ← ten_all, Bool.eq_iff_iff, ← trimS_nil, beq_iff_eq]
theorem index_has : ∀ (l : B) (c : UInt8), (0 ≤ Lib.indexByte l c) ↔ c ∈ l
 | [], c => by simp [Lib.indexByte]
 | b :: l, c => by
  have ih := index_has l c
  have hg := Lib.indexByte_ge l c
  unfold Lib.indexByte
  by_cases h : b = c
  ·subst h; simp
  ·have h' : ¬ c = b := fun e => h e.symm
   simp only [beq_iff_eq, h, if_false, List.mem_cons, h', false_or]
   rw [← ih]
   split
   ·rename_i e; rw [e]
   ·omega
theorem Sign_ok (s : ByteArray) : AnsB 185 #[.string s] w (isSign (bl s)) := by
 apply c185
 unfold t185 tvZ caBZ jn0Z jnBZ
 simp only [eq_bl]
 refine join0_ok (fun w' => isSign (bl s) = (decide (s.size = 1) && isSign (bl s)) ∧ Fr noB w w') (fun k1 hk1 => ?_) ?_
 ·refine join1_ok (c := .bool) (fun (b : Bool) w' => b = (bl s == [60, 61] || (bl s == [62, 61] || bl s == [45, 62])) ∧ Fr noB w w') (fun k2 hk2 => ?_) ?_
  ·refine ite_ok (fun h => hk2 _ _ ⟨?_, Fr.refl _ _⟩) fun h => ?_
   ·have h' : (bl s == [60, 61]) = true := h
    rw [h', h]; rfl
   ·have h' : (bl s == [60, 61]) = false := h
    refine join1_ok (c := .bool) (fun (b : Bool) w' => b = (bl s == [62, 61] || bl s == [45, 62]) ∧ Fr noB w w') (fun k3 hk3 => ?_) (fun b w' hb => hk2 _ _ ⟨by rw [h', hb.1]; rfl, hb.2⟩)
    refine ite_ok (fun h2 => hk3 _ _ ⟨?_, Fr.refl _ _⟩) fun h2 => hk3 _ _ ⟨?_, Fr.refl _ _⟩
    ·have h2' : (bl s == [62, 61]) = true := h2
     rw [h2', h2]; rfl
    ·have h2' : (bl s == [62, 61]) = false := h2
     rw [h2']; rfl
  rintro b w1 ⟨hb, F1⟩
  refine ite_ok (fun h => ⟨?_, F1⟩) fun h => hk1 _ ⟨?_, F1⟩
  ·rw [h] at hb
   have : isSign (bl s) = true := by
    unfold isSign
    rw [List.contains_iff_mem]
    have hb := hb.symm
    simp only [Bool.or_eq_true, beq_iff_eq] at hb
    rcases hb with hb | hb | hb <;> rw [hb] <;> decide
   rw [this]
  ·rw [h] at hb
   have hb := hb.symm
   simp only [Bool.or_eq_false_iff, beq_eq_false_iff_ne] at hb
   obtain ⟨h1, h2, h3⟩ := hb
   cases hd : isSign (bl s) with
   | false => simp
   | true =>
    unfold isSign signs at hd
    have hd := List.contains_iff_mem.1 hd
    have hl := bl_length s
    have : s.size = 1 := by
     rw [← hl]
     simp only [List.mem_cons, h1, h2, h3, List.not_mem_nil, or_false, false_or] at hd
     rcases hd with hd | hd | hd | hd | hd | hd | hd | hd | hd | hd | hd | hd | hd | hd | hd | hd | hd <;> rw [hd] <;> rfl
    simp [this]
 rintro w1 ⟨hs1, F1⟩
 refine join1_ok (c := .bool) (fun (b : Bool) w' => b = isSign (bl s) ∧ Fr noB w w') (fun k hk => ?_) (fun b w' h => done_b h)
 refine ite_ok (fun h => ?_) fun h => hk _ _ ⟨?_, F1⟩
 ·have h1 : s.size = 1 := by have : (s.size : Int) = 1 := by simpa using h
                             omega
  obtain ⟨c, hc⟩ : ∃ c, bl s = [c] := by
   have hl := bl_length s
   rw [h1] at hl
   match hb : bl s, hl with
   | [c], _ => exact ⟨c, rfl⟩
  have hsc : s = ⟨#[c]⟩ := by rw [← bs_bl s, hc]; rfl
  have hcall := Tryz.strings_Contains_one (bs [40, 41, 123, 125, 91, 93, 60, 62, 61, 94, 42, 44, 58, 46, 47, 64, 124]) c w1
  rw [← hsc] at hcall
  refine callB_ok hcall fun w2 hw => hk _ _ ⟨?_, hw ▸ F1⟩
  rw [hc, Bool.eq_iff_iff, decide_eq_true_eq, index_has]
  show c ∈ bl (bs _) ↔ _
  rw [bl_bs]
  unfold isSign signs
  rw [List.contains_iff_mem]
  simp only [List.mem_cons, List.cons.injEq, List.not_mem_nil, or_false, and_true, reduceCtorEq, and_false, false_or, or_false]
 ·have h1 : ¬ s.size = 1 := by intro e; rw [e] at h; simp at h
  rw [hs1, decide_eq_false h1]
  rfl
theorem get_at (s : ByteArray) (i : Nat) : (s.get! i).toNat = at0 (bl s) i := by
 unfold at0
 congr 1
 cases s with
 | mk d =>
  rw [List.getD_eq_getElem?_getD]
  show d[i]! = _
  simp only [bl]
  by_cases h : i < d.size
  ·rw [getElem!_pos d i h]
   simp [h]
  ·rw [getElem!_neg d i h]
   simp [h]
   rfl
theorem decode_utf (s : ByteArray) (hs : 0 < s.size) : (utfLen (bl s) = 0 → Lib.decodeGo s = (65533, 1)) ∧ (0 < utfLen (bl s) → (Lib.decodeGo s).2 = utfLen (bl s) ∧ ¬ ((Lib.decodeGo s).1 = 65533 ∧ (Lib.decodeGo s).2 = 1) ∧ (Lib.decodeGo s).1 < 1114112) := by
 have hne : bl s ≠ [] := fun e => by have := bl_eq_nil.1 e; omega
 unfold Lib.decodeGo
 rw [if_neg (by omega), Lib.decode_at, utfLen_N hne, bl_length]
 simp only [get_at, Nat.sub_zero, Nat.zero_add]
 have hb : ∀ i, at0 (bl s) i < 256 := fun i => u8_lt _
 exact decodeN_utf _ _ _ _ _ (hb 0) (hb 1) (hb 2) (hb 3) hs
def utfFault (l : B) : Int × Int := match utfBad l with
 | none => (0, 0)
 | some k => (30, (k : Int))
set_option maxHeartbeats 1000000 in
theorem Decode_ok (s : ByteArray) (hs : s.size ≤ 1000000) (hg : Glob w) : Calls Tryz.prog 178 #[.string s] w fun e w' =>
  ∃ sl : Sl, e = .returned (.tuple #[.slice sl.a sl.n sl.c, .agg #[.int .i64 (utfFault (bl s)).1, .int .i64 (utfFault (bl s)).2]]) ∧ Fr noB w w' := by
 have hsl := bl_length s
 apply c178
 unfold t178 wrZ ivZ tvZ ldIZ nwZ caZ jnBZ lpLIZ
 refine new_ok fun w1 m1 hm1 hs1 B1 F1 => ?_
 obtain ⟨i, z, hi, hz, h1, h2, h3⟩ := rInt
 refine make_ok uInts hi hz (by omega) (by omega) (by rw [h2]; omega) (by omega) fun w2 b hb hs2 B2 F2 => ?_
 rw [h3, h1, show (#[Value.int .i64 0] : Array Value) = Array.replicate 1 (.int .i64 0) from rfl, made_rep _ _ _ (by omega), Nat.mul_one] at B2
 have B12 := B1.fr F2 (fun h => h)
 have hw1 : w1.heap.size ≤ w2.heap.size := F2.size
 -- behind the loop
 have stop : ∀ (l : Sl) (a : Nat) (w3 : World), a ≤ s.size → Fr noB w1 w3 → (a < s.size → utfBad (bl s) = some a) → (a = s.size → utfBad (bl s) = none) →
   iteG (Decidable.decide ((a : Int) < (↑(ByteArray.size s) : Int)))
    (stG (Addr.mk m1 0 Option.none) (Value.int IntKind.i64 (30 : Int)) (stG (Addr.mk m1 1 Option.none) (Value.int IntKind.i64 (a : Int)) (ldG (CT.int IntKind.i64) (Addr.mk m1 0 Option.none) (fun (n19 : Int) => ldG (CT.int IntKind.i64) (Addr.mk m1 1 Option.none)
     (fun (n20 : Int) => retG (Value.tuple #[(Value.slice Option.none 0 0), (Value.agg #[(Value.int IntKind.i64 n19), (Value.int IntKind.i64 n20)])]))))))
    (stG (Addr.mk m1 0 Option.none) (Value.int IntKind.i64 (0 : Int)) (stG (Addr.mk m1 1 Option.none) (Value.int IntKind.i64 (0 : Int)) (ldG (CT.int IntKind.i64) (Addr.mk m1 0 Option.none) (fun (n21 : Int) => ldG (CT.int IntKind.i64) (Addr.mk m1 1 Option.none)
     (fun (n22 : Int) => retG (Value.tuple #[(Value.slice (Sl.a l) (Sl.n l) (Sl.c l)), (Value.agg #[(Value.int IntKind.i64 n21), (Value.int IntKind.i64 n22)])]))))))
    (fun e w' => ∃ sl : Sl, e = .returned (.tuple #[.slice sl.a sl.n sl.c, .agg #[.int .i64 (utfFault (bl s)).1, .int .i64 (utfFault (bl s)).2]]) ∧ Fr noB w w') w3 := by
  intro l a w3 ha F3 hbad hgood
  have B3 := B1.fr F3 (fun h => h)
  refine ite_ok (fun h => ?_) fun h => ?_
  ·have h : a < s.size := by simp only [decide_eq_true_eq] at h; omega
   refine B3.st (o := 0) rfl (by simp) fun w4 B4 F4 => B4.st (o := 1) rfl (by simp) fun w5 B5 F5 => B5.ld (o := 0) rfl (B5.ld (o := 1) rfl ⟨⟨none, 0, 0⟩, ?_, ?_⟩)
   ·unfold utfFault
    rw [hbad h]
   ·exact ((F1.tr F3).then F4 fun y hy e => by unfold oneB at e; omega).then F5 fun y hy e => by unfold oneB at e; omega
  ·have h : a = s.size := by simp only [decide_eq_false_iff_not] at h; omega
   refine B3.st (o := 0) rfl (by simp) fun w4 B4 F4 => B4.st (o := 1) rfl (by simp) fun w5 B5 F5 => B5.ld (o := 0) rfl (B5.ld (o := 1) rfl ⟨l, ?_, ?_⟩)
   ·unfold utfFault
    rw [hgood h]
   ·exact ((F1.tr F3).then F4 fun y hy e => by unfold oneB at e; omega).then F5 fun y hy e => by unfold oneB at e; omega
 refine loop_ok (vs := [.one .slice, .one (.int .i64)])
  (fun xs w' => ∃ (a n : Nat) (ys : List Value), (show Int from xs.2.1.1) = (a : Int) ∧ a ≤ s.size ∧ n ≤ a ∧ w'.ownsRow w1.heap.size 3 1 (.slice (show Sl from xs.1.1).a (show Sl from xs.1.1).n (show Sl from xs.1.1).c) n ys ∧ Fr noB w1 w' ∧
   utfBad (bl s) = (utfBad ((bl s).drop a)).map (· + a))
  (fun xs => s.size - (show Int from xs.2.1.1).toNat) ?_ (xs := ((_, ()), ((_, ()), ())))
  ⟨0, 0, [], rfl, Nat.zero_le _, Nat.le_refl _, ⟨rfl, .inr ⟨b, s.size, _, by simp, by omega, B2, Nat.zero_le _, by unfold maxLen; omega, by simp, rfl⟩⟩, F2, by simp⟩
 rintro rec ⟨⟨l, ⟨⟩⟩, ⟨⟨j, ⟨⟩⟩, ⟨⟩⟩⟩ w3 ⟨a, n, ys, hj, ha, hn, hown, F3, hmap⟩ hrec
 change Int at j
 change Sl at l
 change j = (a : Int) at hj
 change w3.ownsRow _ _ _ (.slice l.a l.n l.c) _ _ at hown
 subst hj
 refine ite_ok (fun hlt => ?_) fun hge => stop l a w3 ha F3 (fun h => ?_) (fun h => ?_)
 rotate_left
 ·have hge : ¬ ((a : Int) < (s.size : Int)) := of_decide_eq_false hge
  omega
 ·rw [hmap, h, ← hsl, List.drop_length]; rfl
 have hlt : a < s.size := by
  have hlt : ((a : Int) < (s.size : Int)) := of_decide_eq_true hlt
  omega
 refine join_in (sub_ok (s := s) (l := (a : Int)) (by omega) (by omega) (by omega) ?_)
 have e8 : bl (s.extract ((a : Int)).toNat ((s.size : Int)).toNat) = (bl s).drop a := by
  rw [bl_extract]
  apply List.take_of_length_le
  rw [List.length_drop, hsl]
  omega
 generalize hs8 : s.extract ((a : Int)).toNat ((s.size : Int)).toNat = s8 at *
 have hz8 : s8.size = s.size - a := by rw [← bl_length, e8, List.length_drop, hsl]
 have hd := decode_utf s8 (by omega)
 rw [e8] at hd
 have hgl := (hg.fr (F1.tr F3)).tabs
 refine call_ok (Tryz.utf8_DecodeRuneInString s8 w3 hgl) ?_
 rintro _ w4 ⟨rfl, hbel⟩
 have F4 := fr_below hbel
 refine ⟨((((Lib.decodeGo s8).1 : Int), ()), ((((Lib.decodeGo s8).2 : Int), ()), ())), rfl, ?_⟩
 by_cases hu : utfLen ((bl s).drop a) = 0
 ·rw [hd.1 hu]
  refine join1_ok (c := .bool) (fun (b : Bool) w' => b = true ∧ w' = w4) (fun k hk => ite_yes (y := k false) rfl (hk _ _ ⟨rfl, rfl⟩)) ?_
  rintro b w' ⟨rfl, hw⟩
  replace hw := hw.symm
  subst hw
  refine ite_yes rfl (stop l a w4 ha (F3.tr F4) (fun _ => ?_) (fun h => by omega))
  rw [hmap, utfBad_bad (fun e => by have := congrArg List.length e; rw [List.length_drop, hsl] at this; simp at this; omega) hu]
  simp
 ·obtain ⟨g2, g1, g3⟩ := hd.2 (by omega)
  have hle := utfLen_le ((bl s).drop a)
  rw [List.length_drop, hsl] at hle
  generalize hdc : Lib.decodeGo s8 = rn at *
  obtain ⟨r, n'⟩ := rn
  simp only at g1 g2 g3
  subst g2
  refine join1_ok (c := .bool) (fun (b : Bool) w' => b = false ∧ w' = w4) (fun k hk => ite_ok (fun h => hk _ _ ⟨?_, rfl⟩) fun h => hk _ _ ⟨rfl, rfl⟩) ?_
  ·have h : r = 65533 := by have : ((r : Nat) : Int) = 65533 := by simpa using h
                            omega
   refine beq_eq_false_iff_ne.2 fun e => g1 ⟨h, ?_⟩
   omega
  rintro b w' ⟨rfl, hw⟩
  replace hw := hw.symm
  subst hw
  refine ite_no rfl (new_ok fun w5 m13 hm13 hs5 B13 F5 => ?_)
  have F35 := F4.tr F5
  refine appendB_ok uInts hi hz h1 h2 (by rw [h3]; rfl) (by omega) (s := ⟨l.a, l.n, l.c⟩) (own_fr0 hown F35) (m := 1) (news := [.int .i64 (IntKind.wrap .i64 (r : Int))]) rfl (B13.held fun j v hj => by rw [Nat.zero_add]; exact hj) (fun u hu => by rw [List.mem_singleton.1 hu]; rfl) (by unfold maxLen; omega) (by omega)
   (by have := F3.size; have := F35.size; omega) fun l' w6 hown6 F6 => ?_
  rw [wrap_ok (n := (a : Int) + ((utfLen ((bl s).drop a) : Nat) : Int)) (by omega) (by omega)]
  have e1 : (a : Int) + ((utfLen ((bl s).drop a) : Nat) : Int) = ((a + utfLen ((bl s).drop a) : Nat) : Int) := by omega
  rw [e1]
  refine hrec ((_, ()), ((_, ()), ())) w6 ⟨a + utfLen ((bl s).drop a), n + 1, _, rfl, by omega, by omega, hown6, (F3.tr F35).then F6 (fun y hy h => by omega), ?_⟩ ?_
  ·have hpos : 0 < utfLen ((bl s).drop a) := by omega
   have hst := utfBad_step hpos rfl
   rw [List.drop_drop] at hst
   rw [hmap, hst]
   cases utfBad ((bl s).drop (a + utfLen ((bl s).drop a))) with
   | none => rfl
   | some x => simp only [Option.map_some, Option.some.injEq]; omega
  ·show s.size - ((a + utfLen ((bl s).drop a) : Nat) : Int).toNat < s.size - ((a : Nat) : Int).toNat
   simp only [Int.toNat_natCast]
   omega
end
end Go.Proofs.YtngfnokbdcjoeaaGreatDoor
end
section
namespace Go.Lift
def bh (b : Nat) : Nat → Prop := fun k => b ≤ k
theorem Fr.sq {S : Nat → Prop} {a b c : World} (h : Fr S a b) (k : Fr S b c) : Fr S a c := h.then k fun _ _ h => h
theorem Fr.up {a c : World} (h : Fr noB a c) (b : Nat) : Fr (bh b) a c := h.mono fun _ _ h => h.elim
theorem Fr.one {a c : World} {b : Nat} (h : Fr (oneB b) a c) : Fr (bh b) a c := h.mono fun _ _ h => by unfold oneB at h; unfold bh; omega
theorem own_ne {w : World} {base e sz n m : Nat} {t : TypeId} {s : Sl} {xs l : List Value} (h : w.ownsRow base e sz (.slice s.a s.n s.c) n xs) (B : Blk w m t l) (ht : t ≠ e) : ∀ k, (Value.slice s.a s.n s.c).ownBlock = some k → m ≠ k := by
 rintro k hk rfl
 rcases h.2 with ⟨h, _⟩ | ⟨g, cap, cur, h, _, hg, _⟩
 ·rw [h] at hk; cases hk
 ·rw [h] at hk
  cases hk
  unfold Blk at B
  rw [hg] at B
  simp only [Option.some.injEq, Obj.cells.injEq] at B
  exact ht B.2.1.symm
section
variable {P : Program} {R : Ending → World → Prop} {w : World}
theorem loopN_ok {vs : List VT} {body : CurV G vs → CurV G vs} (I : Nat → HV vs → World → Prop)
  (hbody : ∀ (n : Nat) (rec : CurV G vs) (xs : HV vs) (w : World), I n xs w → (∀ m ys w', m < n → I m ys w' → uncV rec ys R w') → uncV (body rec) xs R w)
  {n : Nat} {xs : HV vs} (h : I n xs w) : uncV (loopG vs body) xs R w := by
 refine reV ?_
 have key : ∀ f n xs w, I n xs w → n < f → uncV (iterG vs body f) xs R w := by
  intro f
  induction f with
  | zero => intro n xs w _ hn; omega
  | succ f ih =>
   intro n xs w hI hn
   exact hbody n _ xs w hI fun m ys w' hlt hy => ih m ys w' hy (by omega)
 exact ⟨n + 1, key _ n xs w h (Nat.lt_succ_self _)⟩
theorem loop0_ok {body : G → G} (I : Nat → World → Prop) (hbody : ∀ (n : Nat) (rec : G) (w : World), I n w → (∀ m w', m < n → I m w' → rec R w') → body rec R w) {n : Nat} (h : I n w) : loopG [] body R w :=
 loopN_ok (vs := []) (body := body) (fun n _ w => I n w) (fun n rec _ w hI hr => hbody n rec w hI fun m w' hl hm => hr m () w' hl hm) (xs := ()) h
theorem callLF_ok {f : FuncId} {args : Array Value} {Y : Sl → World → Prop} {x y : Int} (hc : Calls P f args w fun en w' => ∃ sl : Sl, en = .returned (.tuple #[.slice sl.a sl.n sl.c, .agg #[.int .i64 x, .int .i64 y]]) ∧ Y sl w')
  {k : Sl → Int → Int → G} (h : ∀ sl w', Y sl w' → k sl x y R w') : callG P f args [.one .slice, .agg [.int .i64, .int .i64]] k R w :=
 call_ok hc fun _ w' ⟨sl, he, hy⟩ => ⟨((sl, ()), (x, y, ()), ()), he, h sl w' hy⟩
theorem callU8_ok {f : FuncId} {args : Array Value} {n : Int} {Y : World → Prop} (hc : Calls P f args w fun e w' => e = .returned (.int .u8 n) ∧ Y w') {k : Int → G} (h : ∀ w', Y w' → k n R w') : callG P f args [.one (.int .u8)] k R w :=
 call_ok hc fun _ w' ⟨he, hy⟩ => ⟨((n, ()), ()), he, h w' hy⟩
theorem appendC_ok {base : Nat} {t ty e : TypeId} {i : TypeInfo} {z : Value} {size bytes : Nat} (ht : P.underlying t = some (.slice e)) (hi : P.info? e = some i) (hz : i.zero = some z)
  (hsize : i.size = size) (hby : i.bytes = bytes) (hzs : z.cells.size = size) (hsz : 0 < size) {s : Sl} {n : Nat} {xs : List Value} (hown : w.ownsRow base e size (.slice s.a s.n s.c) n xs)
  {ad : Addr} {m c : Nat} {news : List Value} (hl : news.length = m * size) (hnews : Held w (ad, news)) (h1 : ∀ u ∈ news, u.oneCell' = true)
  (h63 : n + m ≤ maxLen) (hbytes : (n + m) * bytes ≤ 140737488355328) (hb : base ≤ w.heap.size) {k : Sl → G}
  (h : ∀ (s' : Sl) w', w'.ownsRow base e size (.slice s'.a s'.n s'.c) (n + m) (xs ++ news) → Fr (fun k => (Value.slice s.a s.n s.c).ownBlock = some k) w w' → k s' R w') :
  opG P (Builtin.append_ #[t, t] ty #[.slice s.a s.n s.c, .slice (some ad) m c]) (.one .slice) k R w := by
 obtain ⟨v', w', hr, h2, h3, _⟩ := run_append_own (P := P) w base t ty e i z size bytes ht hi hz hsize hby hzs hsz _ n xs hown ad m c news hl hnews h1 h63 hbytes hb
 obtain ⟨s', rfl, _, _⟩ := slice_of_own h2
 exact ⟨(s', ()), w', hr, h s' w' h2 (Fr.of_grown h3)⟩
end
end Go.Lift
namespace Go.Lex
theorem utfBadF_le : ∀ (f : Nat) (s : B) (k : Nat), utfBadF f s = some k → k ≤ s.length
 | 0, s, k, h => by simp [utfBadF] at h
 | f + 1, [], k, h => by simp [utfBadF] at h
 | f + 1, a :: r, k, h => by
  have hl := utfLen_le (a :: r)
  unfold utfBadF at h
  cases hu : utfLen (a :: r) with
  | zero => rw [hu] at h; simp only [Option.some.injEq] at h; omega
  | succ n =>
   rw [hu] at h
   simp only [Option.map_eq_some_iff] at h
   obtain ⟨j, hj, rfl⟩ := h
   have := utfBadF_le f _ j hj
   rw [List.length_drop] at this
   omega
theorem utfBad_le {s : B} {k : Nat} (h : utfBad s = some k) : k ≤ s.length := utfBadF_le _ _ _ h
end Go.Lex
namespace Go.Proofs.YtngfnokbdcjoeaaGreatDoor
open Go.Lift Go.Lex
def GlobB (b : Nat) (w : World) : Prop := ∃ w0, Glob w0 ∧ Fr noB w0 w ∧ w0.heap.size ≤ b
theorem GlobB.fr {b : Nat} {w w' : World} (h : GlobB b w) (F : Fr (bh b) w w') : GlobB b w' := by
 obtain ⟨w0, g, F0, hb⟩ := h
 exact ⟨w0, g, F0.then F fun x hx h => by unfold bh at h; omega, hb⟩
theorem GlobB.glob {b : Nat} {w : World} (h : GlobB b w) : Glob w := by
 obtain ⟨w0, g, F0, hb⟩ := h
 exact g.fr F0
theorem GlobB.of {w0 w : World} (g : Glob w0) (F : Fr noB w0 w) {b : Nat} (hb : w0.heap.size ≤ b) : GlobB b w := ⟨w0, g, F, hb⟩
def tokCells (t : Tok) : List Value := [.int .i64 (t.kind : Int), .string (bs t.text), .int .i64 (t.at' : Int)]
theorem uToks : Tryz.prog.underlying 131 = some (.slice 96) := by kernel_rfl
theorem rTok : rowSays Tryz.prog 96 3 32 #[.int .i64 0, .string ⟨#[]⟩, .int .i64 0] := rowSays_of (by kernel_rfl)
def St (w : World) (b : Nat) (s : ByteArray) (i : Nat) (acc : List Tok) (e a : Int) : Prop :=
 ∃ l : Sl, Blk w b 161 [.string s, .int .i64 (i : Int), .slice l.a l.n l.c, .int .i64 e, .int .i64 a] ∧ w.ownsRow (b + 1) 96 3 (.slice l.a l.n l.c) acc.length (acc.flatMap tokCells)
theorem St.fr {w w' : World} {b : Nat} {s : ByteArray} {i : Nat} {acc : List Tok} {e a : Int} (h : St w b s i acc e a) (F : Fr noB w w') : St w' b s i acc e a := by
 obtain ⟨l, B, h⟩ := h
 exact ⟨l, B.fr F (fun h => h), own_fr0 h F⟩
theorem own_one {w w' : World} {b n : Nat} {v : Value} {xs : List Value} (h : w.ownsRow (b + 1) 96 3 v n xs) (F : Fr (oneB b) w w') : w'.ownsRow (b + 1) 96 3 v n xs :=
 own_fr h F fun k hk e => by have := (h.lt k hk).1; unfold oneB at e; omega
section
variable {w : World} {b : Nat} {t : TypeId} {s : ByteArray} {i : Nat}
theorem peek_ok {k : Nat} {tl : List Value} (B : Blk w b t (.string s :: .int .i64 (i : Int) :: tl)) (_ : s.size ≤ 1000000) (hi : i + k ≤ 2000000) :
  Calls Tryz.prog 154 #[.pointer (some ⟨b, 0, none⟩), .int .i64 (k : Int)] w fun e w' => e = .returned (.int .u8 ((((bl s).getD (i + k) 0).toNat : Nat) : Int)) ∧ Fr noB w w' := by
 have hsl := bl_length s
 apply c154
 unfold t154 wrZ ldIZ ldSZ
 refine drew_ok fun w1 F1 z1 => ?_
 have B1 := B.fr F1 (fun h => h)
 refine nn_ok (B1.ld (o := 1) rfl (nn_ok (B1.ld (o := 0) rfl ?_)))
 rw [wrap_ok (n := (i : Int) + (k : Int)) (by omega) (by omega)]
 refine ite_ok (fun h => ⟨?_, F1⟩) fun h => ?_
 ·have h : ((i : Int) + (k : Int)) ≥ (s.size : Int) := of_decide_eq_true h
  rw [List.getD_eq_getElem?_getD, List.getElem?_eq_none (by omega)]
  rfl
 ·have h : ¬ ((i : Int) + (k : Int)) ≥ (s.size : Int) := of_decide_eq_false h
  refine drew_ok fun w2 F2 z2 => ?_
  have B2 := B1.fr F2 (fun h => h)
  refine nn_ok (B2.ld (o := 0) rfl (nn_ok (B2.ld (o := 1) rfl ?_)))
  rw [wrap_ok (n := (i : Int) + (k : Int)) (by omega) (by omega)]
  have e1 : (i : Int) + (k : Int) = ((i + k : Nat) : Int) := by omega
  rw [e1]
  refine chr_ok (by omega) ⟨?_, F1.tr F2⟩
  rw [List.getD_eq_getElem?_getD, List.getElem?_eq_getElem (by omega)]
  rfl
theorem while_ok {tl : List Value} (B : Blk w b t (.string s :: .int .i64 (i : Int) :: tl)) (hs : s.size ≤ 1000000) (hi : i ≤ s.size) {fv : Value} {p : UInt8 → Bool} (hp : PredV fv p) :
  Calls Tryz.prog 155 #[.pointer (some ⟨b, 0, none⟩), fv] w fun e w' =>
   e = .returned (.string (bs (((bl s).drop i).takeWhile p))) ∧ Blk w' b t (.string s :: .int .i64 (((i + (((bl s).drop i).takeWhile p).length : Nat)) : Int) :: tl) ∧ Fr (oneB b) w w' := by
 have hsl := bl_length s
 apply c155
 unfold t155 wrZ ivZ tvZ ldIZ ldSZ jn0Z jnBZ
 refine nn_ok (B.ld (o := 1) rfl ?_)
 refine join0_ok (fun w' => Blk w' b t (.string s :: .int .i64 (((i + (((bl s).drop i).takeWhile p).length : Nat)) : Int) :: tl) ∧ Fr (oneB b) w w') (fun kend hkend => ?_) ?_
 ·refine loop0_ok (fun m w' => ∃ n : Nat, m = s.size - n ∧ i + n ≤ s.size ∧ Blk w' b t (.string s :: .int .i64 (((i + n : Nat)) : Int) :: tl) ∧ Fr (oneB b) w w' ∧ ∀ j x, j < n → ((bl s).drop i)[j]? = some x → p x = true)
   (fun m rec w1 hI hrec => ?_) (n := s.size) ⟨0, rfl, by omega, by simpa using B, Fr.refl _ _, fun j x h => by omega⟩
  obtain ⟨n, rfl, hn, B1, F1, hall⟩ := hI
  refine join1_ok (c := .bool) (fun (y : Bool) w' => Blk w' b t (.string s :: .int .i64 (((i + n : Nat)) : Int) :: tl) ∧ Fr (oneB b) w w' ∧ (y = true → ∃ x, ((bl s).drop i)[n]? = some x ∧ p x = true) ∧ (y = false → ∀ x, ((bl s).drop i)[n]? = some x → p x = false)) (fun kj hkj => ?_) ?_
  ·refine drew_ok fun w2 F2 z2 => ?_
   have B2 := B1.fr F2 (fun h => h)
   have F2' := F1.then F2 fun _ _ h => h.elim
   refine nn_ok (B2.ld (o := 1) rfl (nn_ok (B2.ld (o := 0) rfl (ite_ok (fun h => ?_) fun h => hkj _ _ ⟨B2, F2', (fun e => by cases e), fun _ x hx => ?_⟩))))
   ·have h : ((i + n : Nat) : Int) < (s.size : Int) := of_decide_eq_true h
    refine nn_ok (B2.ld (o := 0) rfl (nn_ok (B2.ld (o := 1) rfl (chr_ok (i := i + n) (by omega) ?_))))
    have hx : ((bl s).drop i)[n]? = some ((bl s)[i + n]'(by omega)) := by rw [List.getElem?_drop, List.getElem?_eq_getElem (by omega)]
    generalize (bl s)[i + n]'(by omega) = x at *
    refine callP_ok hp x fun w3 F3 => ?_
    have B3 := B2.fr F3 (fun h => h)
    exact keep_cons (B3.held1 (o := 0) rfl) (keep_cons (B3.held1 (o := 1) rfl) (keep_nil (hkj _ _ ⟨B3, F2'.then F3 fun _ _ h => h.elim, fun e => ⟨x, hx, e⟩, fun e y hy => by rw [hx] at hy; cases hy; exact e⟩)))
   ·have h : ¬ ((i + n : Nat) : Int) < (s.size : Int) := of_decide_eq_false h
    rw [List.getElem?_drop] at hx
    have := (List.getElem?_eq_some_iff.1 hx).1
    omega
  rintro y w2 ⟨B2, F2, ht, hf⟩
  refine ite_ok (fun h => ?_) fun h => hkend _ ⟨?_, F2⟩
  ·obtain ⟨x, hx, hp1⟩ := ht h
   have hlt := hx
   rw [List.getElem?_drop] at hlt
   have hlt := (List.getElem?_eq_some_iff.1 hlt).1
   refine join_in (nn_ok (B2.ld (o := 1) rfl (nn_ok (B2.st (o := 1) rfl (by simp) fun w3 B3 F3 => hrec (s.size - (n + 1)) w3 (by omega) ⟨n + 1, rfl, by omega, ?_, F2.sq F3, fun j z hj hz => ?_⟩))))
   ·have e1 : IntKind.wrap .i64 (((i + n : Nat) : Int) + 1) = ((i + (n + 1) : Nat) : Int) := by rw [wrap_ok (by omega) (by omega)]; omega
    rw [← e1]
    exact B3
   ·rcases Nat.lt_succ_iff_lt_or_eq.1 hj with hj | rfl
    ·exact hall j z hj hz
    ·rw [hx] at hz
     cases hz
     exact hp1
  ·have e1 := takeWhile_at (k := n) hall (by rw [List.length_drop]; omega) (hf h)
   rw [e1, List.length_take, List.length_drop, Nat.min_eq_left (by omega)]
   exact B2
 ·rintro w1 ⟨B1, F1⟩
  refine drew_ok fun w2 F2 z2 => ?_
  have B2 := B1.fr F2 (fun h => h)
  refine nn_ok (B2.ld (o := 0) rfl (nn_ok (B2.ld (o := 1) rfl ?_)))
  have hl := (((bl s).drop i).takeWhile_sublist p).length_le
  rw [List.length_drop] at hl
  refine sub_ok (s := s) (l := (i : Int)) (h' := ((i + (((bl s).drop i).takeWhile p).length : Nat) : Int)) (by omega) (by omega) (by omega) ⟨?_, B2, F1.then F2 fun _ _ h => h.elim⟩
  congr 2
  apply ba_ext
  rw [bl_extract, bl_bs, Int.toNat_natCast, Int.toNat_natCast, Nat.add_sub_cancel_left]
  exact (List.prefix_iff_eq_take.1 (List.takeWhile_prefix p)).symm
theorem fail_ok {v0 v1 v2 v3 v4 : Value} (B : Blk w b t [v0, v1, v2, v3, v4]) (e a : Int) :
  Calls Tryz.prog 179 #[.pointer (some ⟨b, 0, none⟩), .int .i64 e, .int .i64 a] w fun en w' => en = .returned (.bool false) ∧ Blk w' b t [v0, v1, v2, .int .i64 e, .int .i64 a] ∧ Fr (oneB b) w w' := by
 apply c179
 unfold t179 ivZ
 refine nn_ok (B.st (o := 3) rfl (by simp) fun w1 B1 F1 => B1.st (o := 4) rfl (by simp) fun w2 B2 F2 => ⟨rfl, B2, F1.sq F2⟩)
theorem whole_ok {v1 v2 v3 v4 : Value} (B : Blk w b t [.string s, v1, v2, v3, v4]) (hg : Glob w) (hs : s.size ≤ 1000000) {j : Nat} (hij : i ≤ j) (hj : j ≤ s.size) :
  Calls Tryz.prog 157 #[.pointer (some ⟨b, 0, none⟩), .int .i64 (i : Int), .int .i64 (j : Int)] w fun en w' => match utfBad (((bl s).drop i).take (j - i)) with
   | none => en = .returned (.bool true) ∧ Fr noB w w'
   | some k => en = .returned (.bool false) ∧ Blk w' b t [.string s, v1, v2, .int .i64 30, .int .i64 ((i + k : Nat) : Int)] ∧ Fr (oneB b) w w' := by
 have hsl := bl_length s
 apply c157
 unfold t157 wrZ ivZ tvZ ldIZ ldSZ nwZ caBZ caZ
 refine nn_ok (B.ld (o := 0) rfl (sub_ok (s := s) (l := (i : Int)) (h' := (j : Int)) (by omega) (by omega) (by omega) ?_))
 have e8 : bl (s.extract ((i : Int)).toNat ((j : Int)).toNat) = ((bl s).drop i).take (j - i) := by
  rw [bl_extract, Int.toNat_natCast, Int.toNat_natCast]
 generalize hs8 : s.extract ((i : Int)).toNat ((j : Int)).toNat = s8 at *
 have hz : s8.size ≤ s.size := by rw [← bl_length, e8, List.length_take, List.length_drop]; omega
 refine callLF_ok (Decode_ok s8 (by omega) hg) fun sl w1 F1 => ?_
 have B1 := B.fr F1 (fun h => h)
 refine new_ok fun w2 m9 hm9 hs2 B9 F2 => ?_
 have B2 := B1.fr F2 (fun h => h)
 have hb := B1.lt
 refine B9.st (o := 0) rfl (by simp) fun w3 B9 F3 => ?_
 have B3 := B2.fr F3 (fun h => by unfold oneB at h; omega)
 refine B9.st (o := 1) rfl (by simp) fun w4 B9 F4 => ?_
 have B4 := B3.fr F4 (fun h => by unfold oneB at h; omega)
 have F14 : Fr noB w w4 := ((F1.tr F2).then F3 fun y hy h => by have := F1.size; unfold oneB at h; omega).then F4 fun y hy h => by have := F1.size; unfold oneB at h; omega
 refine B9.ld (o := 0) rfl ?_
 rw [← e8]
 unfold utfFault at *
 cases hu : utfBad (bl s8) with
 | none =>
  rw [hu] at B9
  exact ite_no rfl ⟨rfl, F14⟩
 | some k =>
  rw [hu] at B9
  have hk : k ≤ s8.size := by rw [← bl_length]; exact utfBad_le hu
  refine ite_yes rfl (B9.ld (o := 0) rfl (B9.ld (o := 1) rfl ?_))
  show callG _ _ #[_, _, .int .i64 (IntKind.wrap .i64 ((i : Int) + (k : Int)))] _ _ _ _
  rw [wrap_ok (n := (i : Int) + (k : Int)) (by omega) (by omega), show (i : Int) + (k : Int) = ((i + k : Nat) : Int) by omega]
  exact callB_ok (fail_ok B4 30 _) fun w5 ⟨B5, F5⟩ => ⟨rfl, B5, (F14.mono fun _ _ h => h.elim).sq F5⟩
theorem add_ok' {acc : List Tok} {e a : Int} {m1 m8 k x : Nat} {T : ByteArray} (h : St w b s i acc e a) (M1 : Blk w m1 157 [.pointer (some ⟨b, 0, none⟩)]) (M8 : Blk w m8 3 [.int .i64 (x : Int)]) (_ : m8 ≠ b) (hb1 : m1 ≠ b) (hacc : acc.length ≤ 1000000) :
  Calls Tryz.prog 180 #[.int .i64 (k : Int), .string T, .pointer (some ⟨m1, 0, none⟩), .pointer (some ⟨m8, 0, none⟩)] w fun en w' =>
   en = .returned (.bool true) ∧ St w' b s i (acc ++ [⟨k, bl T, x⟩]) e a ∧ Fr (bh b) w w' ∧ Blk w' m1 157 [.pointer (some ⟨b, 0, none⟩)] := by
 obtain ⟨l, B, hown⟩ := h
 have hb := B.lt
 apply c180
 unfold t180 ivZ tvZ svZ ldIZ ldLZ ldPZ nwZ
 refine drew_ok fun w1 F1 z1 => ?_
 have B1 := B.fr F1 (fun h => h)
 have M11 := M1.fr F1 (fun h => h)
 have M81 := M8.fr F1 (fun h => h)
 refine M11.ld (o := 0) rfl (M11.ld (o := 0) rfl (nn_ok (B1.ldS (o := 2) rfl (M81.ld (o := 0) rfl (new_ok fun w2 m9 hm9 hs2 B9 F2 => ?_)))))
 have F12 := F1.tr F2
 have B2 := B.fr F12 (fun h => h)
 have M12 := M1.fr F12 (fun h => h)
 have M82 := M8.fr F12 (fun h => h)
 have hown2 := own_fr0 hown F12
 refine keep_cons (B2.held1 (o := 2) rfl) (keep_cons (M12.held1 (o := 0) rfl) (keep_cons (M12.held1 (o := 0) rfl) (keep_nil ?_)))
 obtain ⟨ti, z, hi, hz, h1, h2, h3⟩ := rTok
 refine appendC_ok uToks hi hz h1 h2 (by rw [h3]; rfl) (by omega) (s := l) hown2 (m := 1) (news := [.int .i64 (k : Int), .string T, .int .i64 (x : Int)]) rfl (B9.held fun j v hj => by rw [Nat.zero_add]; exact hj)
  (fun u hu => by simp only [List.mem_cons, List.not_mem_nil, or_false] at hu; rcases hu with rfl | rfl | rfl <;> rfl) (by unfold maxLen; omega) (by omega) (by have := F12.size; omega) fun l' w3 hown3 F3 => ?_
 have hne1 := own_ne hown2 M12 (by decide)
 have hne8 := own_ne hown2 M82 (by decide)
 have hneb := own_ne hown2 B2 (by decide)
 have B3 := B2.fr F3 (fun h => hneb _ h rfl)
 have M13 := M12.fr F3 (fun h => hne1 _ h rfl)
 have M83 := M82.fr F3 (fun h => hne8 _ h rfl)
 refine keep_cons (M83.held1 (o := 0) rfl) (keep_cons (M13.held1 (o := 0) rfl) (keep_cons (M13.held1 (o := 0) rfl) (keep_nil ?_)))
 refine nn_ok (B3.st (o := 2) rfl (by simp) fun w4 B4 F4 => ⟨rfl, ⟨l', B4, ?_⟩, ((F12.up b).then F3 fun y hy h => ?_).sq F4.one, M13.fr F4 (fun h => hb1 h)⟩)
 ·rw [List.length_append, List.flatMap_append]
  have := own_one hown3 F4
  simpa [tokCells, bs_bl] using this
 ·have := (hown2.lt y h).1
  unfold bh
  omega
end
end Go.Proofs.YtngfnokbdcjoeaaGreatDoor
end
section
namespace Go.Lex
set_option maxHeartbeats 4000000 in
theorem utfLen_stop {t r : B} (ht : t ≠ []) (hr : ∀ c, r.head? = some c → c.toNat < 128) : utfLen (t ++ r) = utfLen t := by
 cases r with
 | nil => rw [List.append_nil]
 | cons x r =>
  have hx := hr x rfl
  rw [utfLen_N ht, utfLen_N (by simp)]
  match t, ht with
  | [a], _ =>
   simp only [List.cons_append, List.nil_append, utfN, at0, List.length_cons, List.length_nil, List.getD_cons_zero, List.getD_cons_succ]
   repeat' split
   all_goals first | rfl | omega
  | [a, b], _ =>
   simp only [List.cons_append, List.nil_append, utfN, at0, List.length_cons, List.length_nil, List.getD_cons_zero, List.getD_cons_succ]
   repeat' split
   all_goals first | rfl | omega
  | [a, b, c], _ =>
   simp only [List.cons_append, List.nil_append, utfN, at0, List.length_cons, List.length_nil, List.getD_cons_zero, List.getD_cons_succ]
   repeat' split
   all_goals first | rfl | omega
  | a :: b :: c :: d :: t, _ =>
   simp only [List.cons_append, utfN, at0, List.length_cons, List.length_append, List.getD_cons_zero, List.getD_cons_succ]
   repeat' split
   all_goals first | rfl | omega
theorem quotedF_fuel : ∀ (f g i : Nat) (s out : B), s.length < f → s.length < g → quotedF f i s out = quotedF g i s out
 | 0, _, _, _, _, h, _ => by omega
 | _, 0, _, _, _, _, h => by omega
 | f + 1, g + 1, i, [], out, _, _ => rfl
 | f + 1, g + 1, i, c :: r, out, hf, hg => by
  simp only [List.length_cons] at hf hg
  unfold quotedF
  split
  ·rfl
  split
  ·rfl
  split
  ·cases r with
   | nil => rfl
   | cons e r' =>
    simp only [List.length_cons] at hf hg
    simp only []
    cases esc e with
    | none => rfl
    | some b => exact quotedF_fuel f g _ _ _ (by omega) (by omega)
  ·cases hu : utfLen (c :: r) with
   | zero => rfl
   | succ n => exact quotedF_fuel f g _ _ _ (by rw [List.length_drop, List.length_cons]; omega) (by rw [List.length_drop, List.length_cons]; omega)
def quotedL (i : Nat) (s out : B) : Except Fault (B × Nat) := quotedF (s.length + 1) i s out
theorem quotedL_F {f i : Nat} {s out : B} (h : s.length < f) : quotedF f i s out = quotedL i s out := quotedF_fuel _ _ _ _ _ h (Nat.lt_succ_self _)
theorem quotedL_end (i : Nat) (r out : B) : quotedL i (34 :: r) out = .ok (out, i + 1) := rfl
theorem quotedL_low {i : Nat} {c : UInt8} {r out : B} (h : c.toNat < 32) : quotedL i (c :: r) out = .error ⟨60, 0⟩ := by
 unfold quotedL quotedF
 rw [if_neg (by rintro rfl; revert h; decide), if_pos h]
theorem quotedL_esc (i : Nat) (e : UInt8) (r out : B) : quotedL i (92 :: e :: r) out = match esc e with
  | some b => quotedL (i + 2) r (out ++ [b])
  | none => .error ⟨60, 0⟩ := by
 conv => lhs; unfold quotedL quotedF
 rw [if_neg (by decide), if_neg (by decide), if_pos rfl]
 simp only []
 cases esc e with
 | none => rfl
 | some b => exact quotedL_F (by simp only [List.length_cons]; omega)
theorem quotedL_run : ∀ (m : Nat) (t r out : B) (i : Nat), t.length ≤ m → (∀ c ∈ t, 32 ≤ c.toNat ∧ c ≠ 34 ∧ c ≠ 92) → (∀ c, r.head? = some c → c.toNat < 128) →
  quotedL i (t ++ r) out = match utfBad t with
   | none => quotedL (i + t.length) r (out ++ t)
   | some k => .error ⟨30, i + k⟩
 | _, [], r, out, i, _, _, _ => by simp [utfBad_nil]
 | 0, c :: t, r, out, i, h, _, _ => by simp at h
 | m + 1, c :: t, r, out, i, h, ht, hr => by
  obtain ⟨h1, h2, h3⟩ := ht c (by simp)
  have hs := utfLen_stop (t := c :: t) (by simp) hr
  have hle := utfLen_le (c :: t)
  conv => lhs; unfold quotedL quotedF
  rw [List.cons_append]
  simp only []
  rw [if_neg h2, if_neg (by omega), if_neg h3, ← List.cons_append, hs]
  cases hu : utfLen (c :: t) with
  | zero => rw [utfBad_bad (by simp) hu]; rfl
  | succ n =>
   simp only []
   rw [hu] at hle
   rw [utfBad_step (Nat.succ_pos n) hu, List.drop_append_of_le_length hle, List.take_append_of_le_length hle, quotedL_F (by simp only [List.length_append, List.length_drop, List.length_cons]; omega)]
   rw [quotedL_run m ((c :: t).drop (n + 1)) r _ _ (by rw [List.length_drop]; omega) (fun x hx => ht x (List.mem_of_mem_drop hx)) hr]
   cases utfBad ((c :: t).drop (n + 1)) with
   | none =>
    simp only [Option.map_none]
    rw [List.append_assoc, List.take_append_drop, List.length_drop]
    congr 1
    omega
   | some k =>
    simp only [Option.map_some]
    congr 2
    omega
end Go.Lex
end
