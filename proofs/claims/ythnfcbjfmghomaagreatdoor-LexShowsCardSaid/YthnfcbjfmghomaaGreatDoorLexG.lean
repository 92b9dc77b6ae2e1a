/- Versions. No condition. -/
import Derived.Test.YthnfcbjfmghomaaGreatDoorLexC
import Derived.Test.YthnfcbjfmghomaaGreatDoorParts
namespace Go.Proofs.YthnfcbjfmghomaaGreatDoor
open Go.Lift Go.Lex
section
variable {w : World}
theorem callSl_ok {R : Ending → World → Prop} {P : Program} {f : FuncId} {args : Array Value} {Y : Sl → World → Prop} (hc : Calls P f args w fun e w' => ∃ l : Sl, e = .returned (.slice l.a l.n l.c) ∧ Y l w') {k : Sl → G} (h : ∀ l w', Y l w' → k l R w') : callG P f args [.one .slice] k R w :=
  call_ok hc fun _ w' ⟨l, he, hy⟩ => ⟨((l, ()), ()), he, h l w' hy⟩
theorem split_ok (s : ByteArray) (hs : s.size < 4294967281) (hg : Glob w) : Calls Tryz.prog 72 #[.string s, .string (bs [46])] w fun e w' =>
    ∃ l : Sl, e = .returned (.slice l.a l.n l.c) ∧ RdS w' l ((parts (bl s)).map bs) ∧ Fr noB w w' := by
  obtain ⟨m, hm⟩ := hg.len
  have h := Tryz.strings_Split s (bs [46]) m w hs hm (by decide)
  refine h.mono fun e w' ⟨he, hw⟩ => ⟨⟨_, _, _⟩, he, ?_, hw ▸ fr_alloc w _⟩
  subst hw
  have hp := split_parts (bl s).length (bl s) (Nat.le_refl _)
  have hd := Lib.splitB_data (bs [46]) 0 (Lib.countB s (bs [46])) s
  have e2 : Lib.countB s (bs [46]) = Lib.count (bl s) [46] := rfl
  have e1 : Lib.splitB (bs [46]) 0 (Lib.countB s (bs [46])) s = (parts (bl s)).map bs := by
    have hd' : (Lib.splitB (bs [46]) 0 (Lib.countB s (bs [46])) s).map bl = parts (bl s) := hd.trans hp.1
    rw [← hd', List.map_map]
    conv => lhs; rw [← List.map_id (Lib.splitB (bs [46]) 0 (Lib.countB s (bs [46])) s)]
    exact List.map_congr_left fun x _ => (bs_bl x).symm
  rw [e1, e2]
  have B : Blk (w.alloc (.cells (((parts (bl s)).map bs).map Value.string).toArray 9 (0, 0))) w.heap.size 9 (((parts (bl s)).map bs).map Value.string) := blk_alloc w _ _
  have := RdS.of_blk B (Lib.count (bl s) [46] + 1)
  rw [List.length_map, ← hp.2] at this
  exact this
theorem cut_ok (s : ByteArray) (hs : s.size < 4294967281) (hg : Glob w) : Calls Tryz.prog 71 #[.string s, .string (bs [45])] w fun e w' =>
    e = .returned (.tuple #[.string (bs ((bl s).takeWhile (· != 45))), .string (bs ((bl s).drop ((bl s).takeWhile (· != 45)).length).tail), .bool (!((bl s).drop ((bl s).takeWhile (· != 45)).length).isEmpty)]) ∧ Fr noB w w' := by
  obtain ⟨m, hm⟩ := hg.len
  have h := Tryz.strings_Cut s (bs [45]) m w hs hm
  refine h.mono fun e w' ⟨he, n, hw⟩ => ⟨?_, hw ▸ fr_drewN w n⟩
  rw [he]
  have : Lib.cut s.data.toList (bs [45]).data.toList = _ := cut_tw (bl s) 45
  rw [this]
  rfl

theorem part_ok (s : ByteArray) (hs : s.size ≤ 1000000) : AnsB 97 #[.string s] w (preOk (bl s)) := by
  have hsl := bl_length s
  apply c97
  unfold t97
  refine join1_ok (c := .bool) (fun (b : Bool) w' => b = !(!(bl s).isEmpty && (!digits (bl s) || bl s == [48] || (bl s).head? != some 48)) ∧ Fr noB w w') (fun k hk => ?_) ?_
  · rw [eq_bl, bl_empty, eq_bl]
    rcases bl_cases s with hb | ⟨x, l, hb⟩
    · rw [hb] at hk ⊢
      exact ite_yes rfl (hk _ _ ⟨rfl, Fr.refl _ _⟩)
    · have h0 : 0 < s.size := by rw [← hsl, hb]; simp
      have e0 : (bl s)[0]'(by rw [hsl]; exact h0) = x := by simp [hb]
      refine ite_no (by rw [hb]; rfl) (callB_ok (digits_ok s (by omega)) fun w1 F1 => ite_ok (fun h => chr_ok (i := 0) h0 ?_) fun h => hk _ _ ⟨by rw [h, hb]; rfl, F1⟩)
      rw [e0, u8_lit x 48 (z := 48) rfl]
      have hl : bl ({ data := #[(48 : UInt8)] } : ByteArray) = [48] := rfl
      rw [hl]
      refine ite_ok (fun h2 => hk _ _ ⟨?_, F1⟩) fun h2 => hk _ _ ⟨?_, F1⟩
      · have h2 : x = 48 := by simpa using h2
        subst h2
        rw [h, hb]
        cases hc : ((48 : UInt8) :: l == [48]) <;> simp
      · have h2 : ¬ x = 48 := by simpa using h2
        rw [h, hb]
        simp [h2]
  rintro b w1 ⟨rfl, F1⟩
  have hpre : preOk (bl s) = (!(bl s).isEmpty && (!digits (bl s) || bl s == [48] || (bl s).head? != some 48) && (bl s).all alnum) := by
    unfold preOk
    cases (bl s).isEmpty <;> cases (bl s).all alnum <;> simp
  refine ite_ok (fun h => ⟨?_, F1⟩) fun h => ?_
  · rw [hpre]
    have h : (!(bl s).isEmpty && (!digits (bl s) || bl s == [48] || (bl s).head? != some 48)) = false := by rwa [Bool.not_eq_true'] at h
    rw [h]
    rfl
  have h : (!(bl s).isEmpty && (!digits (bl s) || bl s == [48] || (bl s).head? != some 48)) = true := by rwa [Bool.not_eq_false'] at h
  rw [hpre, h, Bool.true_and]
  refine join0_ok (fun w' => (bl s).all alnum = true ∧ Fr noB w w') (fun kend hkend => ?_) (fun w' h => ⟨by rw [h.1], h.2⟩)
  refine count_ok s.size (by omega) (fun k w' => (∀ i x, i < k → (bl s)[i]? = some x → alnum x = true) ∧ Fr noB w w') (fun rec k w2 hk hI hrec => ?_) ⟨fun i x h => by omega, F1⟩
  obtain ⟨hall, F2⟩ := hI
  refine ite_ok (fun hlt => ?_) fun hge => hkend _ ⟨?_, F2⟩
  · have hlt : k < s.size := by have : (k : Int) < (s.size : Int) := of_decide_eq_true hlt
                                omega
    have hx := bl_at hlt
    refine join_in (chr_ok hlt ?_)
    generalize (bl s)[k]'(by rw [hsl]; exact hlt) = x at *
    rw [u8_lit x 45 (z := 45) rfl]
    have hx1 := hx
    refine join1_ok (c := .bool) (fun (b : Bool) w' => b = !alnum x ∧ w' = w2) (fun k hk => ?_) ?_
    · have hal : alnum x = (decide ((48 : Int) ≤ (x.toNat : Int) ∧ (x.toNat : Int) ≤ 57) || decide ((97 : Int) ≤ (x.toNat : Int) ∧ (x.toNat : Int) ≤ 122) || decide ((65 : Int) ≤ (x.toNat : Int) ∧ (x.toNat : Int) ≤ 90) || x == 45) := by
        unfold alnum
        rw [digit_dec, small_dec, great_dec]
      rw [hal] at hk
      generalize (x.toNat : Int) = z at *
      generalize (x == 45) = y at *
      repeat' first | exact hk _ _ ⟨by simp only [decide_eq_true_eq, decide_eq_false_iff_not] at *; cases y <;> simp <;> omega, rfl⟩ | refine ite_ok (fun _ => ?_) (fun _ => ?_)
    rintro b w' ⟨rfl, rfl⟩
    refine ite_ok (fun h => ⟨?_, F2⟩) fun h => hrec hlt _ ⟨fun i y hi hy => ?_, F2⟩
    · have h : alnum x = false := by simpa using h
      have : (bl s).all alnum = false := by
        rw [Bool.eq_false_iff]
        intro e
        have := List.all_eq_true.1 e x (List.mem_of_getElem? hx)
        rw [h] at this
        cases this
      rw [this]
    · rcases Nat.lt_succ_iff_lt_or_eq.1 hi with hi | rfl
      · exact hall i y hi hy
      · rw [hx] at hy
        cases hy
        simpa using h
  · have hge : ¬ (k : Int) < (s.size : Int) := of_decide_eq_false hge
    rw [List.all_eq_true]
    intro x hx
    obtain ⟨i, hi⟩ := List.mem_iff_getElem?.1 hx
    exact hall i x (by have := (List.getElem?_eq_some_iff.1 hi).1; omega) hi

theorem Check_ok {n0 n1 n2 : Int} (h0 : 0 ≤ n0 ∧ n0 ≤ 999999) (h1 : 0 ≤ n1 ∧ n1 ≤ 999999) (h2 : 0 ≤ n2 ∧ n2 ≤ 999999) (p : ByteArray) (hp : p.size ≤ 1000000) (hg : Glob w) :
    Calls Tryz.prog 75 #[.agg #[.int .i64 n0, .int .i64 n1, .int .i64 n2, .string p]] w fun e w' => e = .returned (.int .i64 (if preAll (bl p) then 0 else 40)) ∧ Fr noB w w' := by
  have hpl := bl_length p
  apply c75
  unfold t75
  refine new_ok fun w1 m4 hm4 hs1 B1 F1 => ?_
  refine B1.ld (o := 0) rfl (B1.ld (o := 1) rfl (B1.ld (o := 2) rfl (new_ok fun w2 m8 hm8 hs2 B8 F2 => ?_)))
  have B2 := B1.fr F2 (fun h => h)
  refine join0_ok (fun w' => w' = w2) (fun kend hkend => ?_) ?_
  · refine count_ok 3 (by omega) (fun k w' => w' = w2) (fun rec k w3 hk hI hrec => ?_) rfl
    subst hI
    refine ite_ok (fun hlt => ?_) fun hge => hkend _ rfl
    have hlt : k < 3 := by have : (k : Int) < ((3 : Nat) : Int) := of_decide_eq_true hlt
                           omega
    obtain ⟨z, hz, hz0, hz1⟩ : ∃ z : Int, ([.int .i64 n0, .int .i64 n1, .int .i64 n2] : List Value)[k]? = some (.int .i64 z) ∧ 0 ≤ z ∧ z ≤ 999999 := by
      match k, hlt with
      | 0, _ => exact ⟨n0, rfl, h0.1, h0.2⟩
      | 1, _ => exact ⟨n1, rfl, h1.1, h1.2⟩
      | 2, _ => exact ⟨n2, rfl, h2.1, h2.2⟩
    refine join_in (idxB_ok hlt (B8.ld (c := .int .i64) (x := z) (by rw [Nat.zero_add, Nat.mul_one]; exact hz) ?_))
    refine join1_ok (c := .bool) (fun (b : Bool) w' => b = false ∧ w' = w3) (fun k hk => ite_ok (fun h => ?_) fun h => hk _ _ ⟨decide_eq_false (by omega), rfl⟩) ?_
    · have h : z < 0 := of_decide_eq_true h
      omega
    rintro b w' ⟨rfl, rfl⟩
    exact ite_no rfl (hrec hlt _ rfl)
  rintro w3 rfl
  have F12 := F1.tr F2
  refine B2.ld (o := 3) rfl (ite_ok (fun h => ⟨?_, F12⟩) fun h => B2.ld (o := 3) rfl ?_)
  · have h : (p.size : Int) > 24 := of_decide_eq_true h
    have : preAll (bl p) = false := by
      unfold preAll
      rw [decide_eq_false (by omega)]
      cases hb : bl p with
      | nil => rw [hb] at hpl; simp at hpl; omega
      | cons c r => rfl
    rw [this]
    rfl
  have h : ¬ (p.size : Int) > 24 := of_decide_eq_false h
  refine join0_ok (fun w' => preAll (bl p) = true ∧ Fr noB w w') (fun kend hkend => ?_) ?_
  · rw [eq_bl, bl_empty]
    rcases bl_cases p with hb | ⟨x, l, hb⟩
    · exact ite_no (by rw [hb]; rfl) (hkend _ ⟨by rw [hb]; rfl, F12⟩)
    refine ite_yes (by rw [hb]; rfl) (B2.ld (o := 3) rfl (callSl_ok (split_ok p (by omega) (hg.fr F12)) fun l21 w4 ⟨hR, F4⟩ => ?_))
    have hall : preAll (bl p) = (parts (bl p)).all preOk := by
      unfold preAll
      rw [decide_eq_true (by omega), hb]
      rfl
    have hn := hR.1
    rw [List.length_map] at hn
    have hpl2 := parts_len (bl p)
    refine join0_ok (fun w' => (parts (bl p)).all preOk = true ∧ Fr noB w w') (fun kend2 hkend2 => ?_) (fun w' ⟨h1, h2⟩ => hkend _ ⟨by rw [hall, h1], h2⟩)
    refine count_ok l21.n (by omega) (fun k w' => (∀ i x, i < k → (parts (bl p))[i]? = some x → preOk x = true) ∧ Fr noB w4 w') (fun rec k w5 hk hI hrec => ?_) ⟨fun i x h => by omega, Fr.refl _ _⟩
    obtain ⟨hpre, F5⟩ := hI
    refine ite_ok (fun hlt => ?_) fun hge => hkend2 _ ⟨?_, (F12.tr F4).tr F5⟩
    · have hlt : k < l21.n := by have : (k : Int) < (l21.n : Int) := of_decide_eq_true hlt
                                 omega
      obtain ⟨x, a, hx, ha, hc, hidx⟩ := hR.at (k := k) (by rw [List.length_map]; omega)
      rw [List.getElem?_map, Option.map_eq_some_iff] at hx
      obtain ⟨y, hy, rfl⟩ := hx
      rw [ha]
      have hyl : y.length ≤ (bl p).length := parts_each y (List.mem_of_getElem? hy)
      refine join_in (hidx (ld_ok (c := .str) (hc _ F5) (callB_ok (part_ok (bs y) (by rw [bs_size]; omega)) fun w6 F6 => ?_)))
      rw [bl_bs]
      refine ite_ok (fun h => ⟨?_, ((F12.tr F4).tr F5).tr F6⟩) fun h => hrec hlt _ ⟨fun i z hi hz => ?_, F5.tr F6⟩
      · have h : preOk y = false := by simpa using h
        have : (parts (bl p)).all preOk = false := by
          rw [Bool.eq_false_iff]
          intro e
          have := List.all_eq_true.1 e y (List.mem_of_getElem? hy)
          rw [h] at this
          cases this
        rw [hall, this]
        rfl
      · rcases Nat.lt_succ_iff_lt_or_eq.1 hi with hi | rfl
        · exact hpre i z hi hz
        · rw [hy] at hz
          cases hz
          simpa using h
    · have hge : ¬ (k : Int) < (l21.n : Int) := of_decide_eq_false hge
      rw [List.all_eq_true]
      intro x hx
      obtain ⟨i, hi⟩ := List.mem_iff_getElem?.1 hx
      exact hpre i x (by have := (List.getElem?_eq_some_iff.1 hi).1; omega) hi
  rintro w4 ⟨hp1, F4⟩
  rw [hp1]
  exact ⟨rfl, F4⟩
end
end Go.Proofs.YthnfcbjfmghomaaGreatDoor
