/- The finder law behind FRanksCard: one part of its proof (joined by program out of my own texts). No condition. -/
import Derived.Test.YticokfpaoiekgaaGreatDoorFRkAI
import Derived.Lib.SmallJoins
section
namespace Go.Proofs.YticokfpaoiekgaaGreatDoor
open Go.Lift Go.Lex
section
variable {w : World}
theorem callSl_ok {R : Ending → World → Prop} {P : Program} {f : FuncId} {args : Array Value} {Y : Sl → World → Prop} (hc : Calls P f args w fun e w' => ∃ l : Sl, e = .returned (.slice l.a l.n l.c) ∧ Y l w') {k : Sl → G} (h : ∀ l w', Y l w' → k l R w') : callG P f args [.one .slice] k R w :=
  call_ok hc fun _ w' ⟨l, he, hy⟩ => ⟨((l, ()), ()), he, h l w' hy⟩
theorem split_ok (s : ByteArray) (hs : s.size < 4294967281) (hg : Glob w) : Calls Tryz.prog 174 #[.string s, .string (bs [46])] w fun e w' =>
    ∃ l : Sl, e = .returned (.slice l.a l.n l.c) ∧ RdS w' l ((parts (bl s)).map bs) ∧ Fr noB w w' := by
  obtain ⟨m, hm⟩ := hg.len
  have h := Tryz.strings_Split s (bs [46]) m w hs hm (by decide)
  refine h.mono fun e w' ⟨he, hw⟩ => ⟨⟨_, _, _⟩, he, ?_, hw ▸ fr_alloc w _⟩
  subst hw
  have hp := split_parts (bl s).length (bl s) (Nat.le_refl _)
  have hd := Lib.splitB_data (bs [46]) 0 (Lib.countB s (bs [46])) s
  have e2 : Lib.countB s (bs [46]) = Lib.count (bl s) [46] := rfl
  have e1 : Lib.splitB (bs [46]) 0 (Lib.countB s (bs [46])) s = (parts (bl s)).map bs := by
    have hd' : (Lib.splitB (bs [46]) 0 (Lib.countB s (bs [46])) s).map bl = parts (bl s) := hd.trans hp.1
    rw [← hd', List.map_map]
    conv => lhs; rw [← List.map_id (Lib.splitB (bs [46]) 0 (Lib.countB s (bs [46])) s)]
    exact List.map_congr_left fun x _ => (bs_bl x).symm
  rw [e1, e2]
  have B : Blk (w.alloc (.cells (((parts (bl s)).map bs).map Value.string).toArray 9 (0, 0))) w.heap.size 9 (((parts (bl s)).map bs).map Value.string) := blk_alloc w _ _
  have := RdS.of_blk B (Lib.count (bl s) [46] + 1)
  rw [List.length_map, ← hp.2] at this
  exact this
theorem cut_ok (s : ByteArray) (hs : s.size < 4294967281) (hg : Glob w) : Calls Tryz.prog 173 #[.string s, .string (bs [45])] w fun e w' =>
    e = .returned (.tuple #[.string (bs ((bl s).takeWhile (· != 45))), .string (bs ((bl s).drop ((bl s).takeWhile (· != 45)).length).tail), .bool (!((bl s).drop ((bl s).takeWhile (· != 45)).length).isEmpty)]) ∧ Fr noB w w' := by
  obtain ⟨m, hm⟩ := hg.len
  have h := Tryz.strings_Cut s (bs [45]) m w hs hm
  refine h.mono fun e w' ⟨he, n, hw⟩ => ⟨?_, hw ▸ fr_drewN w n⟩
  rw [he]
  have : Lib.cut s.data.toList (bs [45]).data.toList = _ := cut_tw (bl s) 45
  rw [this]
  rfl
theorem part_ok (s : ByteArray) (hs : s.size ≤ 1000000) : AnsB 203 #[.string s] w (preOk (bl s)) := by
  have hsl := bl_length s
  apply c203
  unfold t203
  refine join1_ok (c := .bool) (fun (b : Bool) w' => b = !(!(bl s).isEmpty && (!digits (bl s) || bl s == [48] || (bl s).head? != some 48)) ∧ Fr noB w w') (fun k hk => ?_) ?_
  · rw [eq_bl, bl_empty, eq_bl]
    rcases bl_cases s with hb | ⟨x, l, hb⟩
    · rw [hb] at hk ⊢
      exact ite_yes rfl (hk _ _ ⟨rfl, Fr.refl _ _⟩)
    · have h0 : 0 < s.size := by rw [← hsl, hb]; simp
      have e0 : (bl s)[0]'(by rw [hsl]; exact h0) = x := by simp [hb]
      refine ite_no (by rw [hb]; rfl) (callB_ok (digits_ok s (by omega)) fun w1 F1 => ite_ok (fun h => chr_ok (i := 0) h0 ?_) fun h => hk _ _ ⟨by rw [h, hb]; rfl, F1⟩)
      rw [e0, u8_lit x 48 (z := 48) rfl]
      have hl : bl ({ data := #[(48 : UInt8)] } : ByteArray) = [48] := rfl
      rw [hl]
      refine ite_ok (fun h2 => hk _ _ ⟨?_, F1⟩) fun h2 => hk _ _ ⟨?_, F1⟩
      · have h2 : x = 48 := by simpa using h2
        subst h2
        rw [h, hb]
        cases hc : ((48 : UInt8) :: l == [48]) <;> simp
      · have h2 : ¬ x = 48 := by simpa using h2
        rw [h, hb]
        simp [h2]
  rintro b w1 ⟨rfl, F1⟩
  have hpre : preOk (bl s) = (!(bl s).isEmpty && (!digits (bl s) || bl s == [48] || (bl s).head? != some 48) && (bl s).all alnum) := by
    unfold preOk
    cases (bl s).isEmpty <;> cases (bl s).all alnum <;> simp
  refine ite_ok (fun h => ⟨?_, F1⟩) fun h => ?_
  · rw [hpre]
    have h : (!(bl s).isEmpty && (!digits (bl s) || bl s == [48] || (bl s).head? != some 48)) = false := by rwa [Bool.not_eq_true'] at h
    rw [h]
    rfl
  have h : (!(bl s).isEmpty && (!digits (bl s) || bl s == [48] || (bl s).head? != some 48)) = true := by rwa [Bool.not_eq_false'] at h
  rw [hpre, h, Bool.true_and]
  refine join0_ok (fun w' => (bl s).all alnum = true ∧ Fr noB w w') (fun kend hkend => ?_) (fun w' h => ⟨by rw [h.1], h.2⟩)
  refine count_ok s.size (by omega) (fun k w' => (∀ i x, i < k → (bl s)[i]? = some x → alnum x = true) ∧ Fr noB w w') (fun rec k w2 hk hI hrec => ?_) ⟨fun i x h => by omega, F1⟩
  obtain ⟨hall, F2⟩ := hI
  refine ite_ok (fun hlt => ?_) fun hge => hkend _ ⟨?_, F2⟩
  · have hlt : k < s.size := by have : (k : Int) < (s.size : Int) := of_decide_eq_true hlt
                                omega
    have hx := bl_at hlt
    refine join_in (chr_ok hlt ?_)
    generalize (bl s)[k]'(by rw [hsl]; exact hlt) = x at *
    rw [u8_lit x 45 (z := 45) rfl]
    have hx1 := hx
    refine join1_ok (c := .bool) (fun (b : Bool) w' => b = !alnum x ∧ w' = w2) (fun k hk => ?_) ?_
    · have hal : alnum x = (decide ((48 : Int) ≤ (x.toNat : Int) ∧ (x.toNat : Int) ≤ 57) || decide ((97 : Int) ≤ (x.toNat : Int) ∧ (x.toNat : Int) ≤ 122) || decide ((65 : Int) ≤ (x.toNat : Int) ∧ (x.toNat : Int) ≤ 90) || x == 45) := by
        unfold alnum
        rw [digit_dec, small_dec, great_dec]
      rw [hal] at hk
      generalize (x.toNat : Int) = z at *
      generalize (x == 45) = y at *
      repeat' first | exact hk _ _ ⟨by simp only [decide_eq_true_eq, decide_eq_false_iff_not] at *; cases y <;> simp <;> omega, rfl⟩ | refine ite_ok (fun _ => ?_) (fun _ => ?_)
    rintro b w' ⟨rfl, rfl⟩
    refine ite_ok (fun h => ⟨?_, F2⟩) fun h => hrec hlt _ ⟨fun i y hi hy => ?_, F2⟩
    · have h : alnum x = false := by simpa using h
      have : (bl s).all alnum = false := by
        rw [Bool.eq_false_iff]
        intro e
        have := List.all_eq_true.1 e x (List.mem_of_getElem? hx)
        rw [h] at this
        cases this
      rw [this]
    · rcases Nat.lt_succ_iff_lt_or_eq.1 hi with hi | rfl
      · exact hall i y hi hy
      · rw [hx] at hy
        cases hy
        simpa using h
  · have hge : ¬ (k : Int) < (s.size : Int) := of_decide_eq_false hge
    rw [List.all_eq_true]
    intro x hx
    obtain ⟨i, hi⟩ := List.mem_iff_getElem?.1 hx
    exact hall i x (by have := (List.getElem?_eq_some_iff.1 hi).1; omega) hi
theorem Check_ok {n0 n1 n2 : Int} (h0 : 0 ≤ n0 ∧ n0 ≤ 999999) (h1 : 0 ≤ n1 ∧ n1 ≤ 999999) (h2 : 0 ≤ n2 ∧ n2 ≤ 999999) (p : ByteArray) (hp : p.size ≤ 1000000) (hg : Glob w) :
    Calls Tryz.prog 177 #[.agg #[.int .i64 n0, .int .i64 n1, .int .i64 n2, .string p]] w fun e w' => e = .returned (.int .i64 (if preAll (bl p) then 0 else 40)) ∧ Fr noB w w' := by
  have hpl := bl_length p
  apply c177
  unfold t177
  refine new_ok fun w1 m4 hm4 hs1 B1 F1 => ?_
  refine B1.ld (o := 0) rfl (B1.ld (o := 1) rfl (B1.ld (o := 2) rfl (new_ok fun w2 m8 hm8 hs2 B8 F2 => ?_)))
  have B2 := B1.fr F2 (fun h => h)
  refine join0_ok (fun w' => w' = w2) (fun kend hkend => ?_) ?_
  · refine count_ok 3 (by omega) (fun k w' => w' = w2) (fun rec k w3 hk hI hrec => ?_) rfl
    subst hI
    refine ite_ok (fun hlt => ?_) fun hge => hkend _ rfl
    have hlt : k < 3 := by have : (k : Int) < ((3 : Nat) : Int) := of_decide_eq_true hlt
                           omega
    obtain ⟨z, hz, hz0, hz1⟩ : ∃ z : Int, ([.int .i64 n0, .int .i64 n1, .int .i64 n2] : List Value)[k]? = some (.int .i64 z) ∧ 0 ≤ z ∧ z ≤ 999999 := by
      match k, hlt with
      | 0, _ => exact ⟨n0, rfl, h0.1, h0.2⟩
      | 1, _ => exact ⟨n1, rfl, h1.1, h1.2⟩
      | 2, _ => exact ⟨n2, rfl, h2.1, h2.2⟩
    refine join_in (idxB_ok hlt (B8.ld (c := .int .i64) (x := z) (by rw [Nat.zero_add, Nat.mul_one]; exact hz) ?_))
    refine join1_ok (c := .bool) (fun (b : Bool) w' => b = false ∧ w' = w3) (fun k hk => ite_ok (fun h => ?_) fun h => hk _ _ ⟨decide_eq_false (by omega), rfl⟩) ?_
    · have h : z < 0 := of_decide_eq_true h
      omega
    rintro b w' ⟨rfl, rfl⟩
    exact ite_no rfl (hrec hlt _ rfl)
  rintro w3 rfl
  have F12 := F1.tr F2
  refine B2.ld (o := 3) rfl (ite_ok (fun h => ⟨?_, F12⟩) fun h => B2.ld (o := 3) rfl ?_)
  · have h : (p.size : Int) > 24 := of_decide_eq_true h
    have : preAll (bl p) = false := by
      unfold preAll
      rw [decide_eq_false (by omega)]
      cases hb : bl p with
      | nil => rw [hb] at hpl; simp at hpl; omega
      | cons c r => rfl
    rw [this]
    rfl
  have h : ¬ (p.size : Int) > 24 := of_decide_eq_false h
  refine join0_ok (fun w' => preAll (bl p) = true ∧ Fr noB w w') (fun kend hkend => ?_) ?_
  · rw [eq_bl, bl_empty]
    rcases bl_cases p with hb | ⟨x, l, hb⟩
    · exact ite_no (by rw [hb]; rfl) (hkend _ ⟨by rw [hb]; rfl, F12⟩)
    refine ite_yes (by rw [hb]; rfl) (B2.ld (o := 3) rfl (callSl_ok (split_ok p (by omega) (hg.fr F12)) fun l21 w4 ⟨hR, F4⟩ => ?_))
    have hall : preAll (bl p) = (parts (bl p)).all preOk := by
      unfold preAll
      rw [decide_eq_true (by omega), hb]
      rfl
    have hn := hR.1
    rw [List.length_map] at hn
    have hpl2 := parts_len (bl p)
    refine join0_ok (fun w' => (parts (bl p)).all preOk = true ∧ Fr noB w w') (fun kend2 hkend2 => ?_) (fun w' ⟨h1, h2⟩ => hkend _ ⟨by rw [hall, h1], h2⟩)
    refine count_ok l21.n (by omega) (fun k w' => (∀ i x, i < k → (parts (bl p))[i]? = some x → preOk x = true) ∧ Fr noB w4 w') (fun rec k w5 hk hI hrec => ?_) ⟨fun i x h => by omega, Fr.refl _ _⟩
    obtain ⟨hpre, F5⟩ := hI
    refine ite_ok (fun hlt => ?_) fun hge => hkend2 _ ⟨?_, (F12.tr F4).tr F5⟩
    · have hlt : k < l21.n := by have : (k : Int) < (l21.n : Int) := of_decide_eq_true hlt
                                 omega
      obtain ⟨x, a, hx, ha, hc, hidx⟩ := hR.at (k := k) (by rw [List.length_map]; omega)
      rw [List.getElem?_map, Option.map_eq_some_iff] at hx
      obtain ⟨y, hy, rfl⟩ := hx
      rw [ha]
      have hyl : y.length ≤ (bl p).length := parts_each y (List.mem_of_getElem? hy)
      refine join_in (hidx (ld_ok (c := .str) (hc _ F5) (callB_ok (part_ok (bs y) (by rw [bs_size]; omega)) fun w6 F6 => ?_)))
      rw [bl_bs]
      refine ite_ok (fun h => ⟨?_, ((F12.tr F4).tr F5).tr F6⟩) fun h => hrec hlt _ ⟨fun i z hi hz => ?_, F5.tr F6⟩
      · have h : preOk y = false := by simpa using h
        have : (parts (bl p)).all preOk = false := by
          rw [Bool.eq_false_iff]
          intro e
          have := List.all_eq_true.1 e y (List.mem_of_getElem? hy)
          rw [h] at this
          cases this
        rw [hall, this]
        rfl
      · rcases Nat.lt_succ_iff_lt_or_eq.1 hi with hi | rfl
        · exact hpre i z hi hz
        · rw [hy] at hz
          cases hz
          simpa using h
    · have hge : ¬ (k : Int) < (l21.n : Int) := of_decide_eq_false hge
      rw [List.all_eq_true]
      intro x hx
      obtain ⟨i, hi⟩ := List.mem_iff_getElem?.1 hx
      exact hpre i x (by have := (List.getElem?_eq_some_iff.1 hi).1; omega) hi
  rintro w4 ⟨hp1, F4⟩
  rw [hp1]
  exact ⟨rfl, F4⟩
end
end Go.Proofs.YticokfpaoiekgaaGreatDoor
end
section
namespace Go.Proofs.YticokfpaoiekgaaGreatDoor
open Go.Lift Go.Lex
section
variable {w : World} {R : Ending → World → Prop}
theorem zero4_ok {m : Nat} {t : TypeId} {v0 v1 v2 v3 : Value} {c : Int} (B1 : Blk w m t [v0, v1, v2, v3])
    (h : ∀ w', Fr (oneB m) w w' → R (.returned (.tuple #[.agg #[.int .i64 0, .int .i64 0, .int .i64 0, .string ⟨#[]⟩], .int .i64 c])) w') :
    stG (Addr.mk m 0 Option.none) (Value.int IntKind.i64 (0 : Int)) (stG (Addr.mk m 1 Option.none) (Value.int IntKind.i64 (0 : Int)) (stG (Addr.mk m 2 Option.none) (Value.int IntKind.i64 (0 : Int)) (stG (Addr.mk m 3 Option.none) (Value.string (ByteArray.mk #[]))
      (ldG (CT.int IntKind.i64) (Addr.mk m 0 Option.none) (fun (n8 : Int) => ldG (CT.int IntKind.i64) (Addr.mk m 1 Option.none) (fun (n9 : Int) => ldG (CT.int IntKind.i64) (Addr.mk m 2 Option.none) (fun (n10 : Int) => ldG CT.str (Addr.mk m 3 Option.none)
        (fun (s11 : ByteArray) => retG (Value.tuple #[(Value.agg #[(Value.int IntKind.i64 n8), (Value.int IntKind.i64 n9), (Value.int IntKind.i64 n10), (Value.string s11)]), (Value.int IntKind.i64 c)]))))))))) R w := by
  refine B1.st (o := 0) rfl (by simp) fun w1 B1 F1 => B1.st (o := 1) rfl (by simp) fun w2 B2 F2 => B2.st (o := 2) rfl (by simp) fun w3 B3 F3 => B3.st (o := 3) rfl (by simp) fun w4 B4 F4 => ?_
  exact B4.ld (o := 0) rfl (B4.ld (o := 1) rfl (B4.ld (o := 2) rfl (B4.ld (c := .str) (o := 3) rfl (h _ (((F1.sq F2).sq F3).sq F4)))))
theorem atoi_ok (p : ByteArray) (h : digits (bl p) = true) (h6 : p.size ≤ 6) {k : Int → Value → G} (hk : ∀ (v : Nat) w', v ≤ 999999 → Fr noB w w' → k (v : Int) .nilIface R w') :
    callG Tryz.prog 176 #[.string p] [.one (.int .i64), .one .any] k R w := by
  have hpl := bl_length p
  obtain ⟨v, hv, hv6⟩ := atoi_digits h (by omega)
  refine call_ok (Tryz.strconv_Atoi p v (by omega) hv w) ?_
  rintro _ w' ⟨rfl, t, rfl⟩
  exact ⟨((v, ()), (.nilIface, ()), ()), rfl, hk v _ hv6 (fr_below (Joins.below_bytesWorld _ w _ t (Nat.le_refl _)))⟩
set_option maxHeartbeats 2000000 in
theorem Parse_ok (s : ByteArray) (hs : s.size ≤ 1000000) (hg : Glob w) : Calls Tryz.prog 144 #[.string s] w fun e w' =>
    (∃ (x0 x1 x2 : Int) (p : ByteArray), e = .returned (.tuple #[.agg #[.int .i64 x0, .int .i64 x1, .int .i64 x2, .string p], .int .i64 (if verOk (bl s) then 0 else 40)])) ∧ Fr noB w w' := by
  have hsl := bl_length s
  have hver := verOk_eq (bl s)
  have htw := ((bl s).takeWhile_sublist (· != 45)).length_le
  apply c144
  unfold t144
  refine new_ok fun w1 m1 hm1 hs1 B1 F1 => ?_
  refine call_ok (cut_ok s (by omega) (hg.fr F1)) ?_
  rintro _ w2 ⟨rfl, F2⟩
  generalize hcore : (bl s).takeWhile (· != 45) = core at *
  generalize htail : (bl s).drop core.length = tail at *
  have hpre : tail.tail.length ≤ (bl s).length := by rw [← htail, List.length_tail, List.length_drop]; omega
  refine ⟨((bs core, ()), (bs tail.tail, ()), (!tail.isEmpty, ()), ()), rfl, ?_⟩
  have F12 := F1.tr F2
  have hcs := bs_size core
  refine callSl_ok (split_ok (bs core) (by omega) (hg.fr F12)) fun l5 w3 ⟨hR, F3⟩ => ?_
  rw [bl_bs] at hR
  have hn := hR.1
  rw [List.length_map] at hn
  have F13 := F12.tr F3
  have B3 := (B1.fr F2 (fun h => h)).fr F3 (fun h => h)
  have hm3 := B3.lt
  have bad : ∀ {w' : World} {x : Int}, verOk (bl s) = false → x = 40 → Fr noB w w' → (∃ (x0 x1 x2 : Int) (p : ByteArray), (Ending.returned (.tuple #[.agg #[.int .i64 0, .int .i64 0, .int .i64 0, .string ⟨#[]⟩], .int .i64 x])) = .returned (.tuple #[.agg #[.int .i64 x0, .int .i64 x1, .int .i64 x2, .string p], .int .i64 (if verOk (bl s) then 0 else 40)])) ∧ Fr noB w w' :=
    fun h hx F => ⟨⟨0, 0, 0, ⟨#[]⟩, by rw [h, hx]; rfl⟩, F⟩
  have one : ∀ {w' w'' : World}, Fr noB w w' → Fr (oneB m1) w' w'' → Fr noB w w'' := fun F G => F.then G fun y hy h => by unfold oneB at h; omega
  refine join1_ok (c := .bool) (fun (b : Bool) w' => b = !(decide ((parts core).length = 3) && (tail.isEmpty || !tail.tail.isEmpty)) ∧ w' = w3) (fun k hk => ?_) ?_
  · rw [eq_bl, bl_bs, bl_empty]
    by_cases h3 : (parts core).length = 3
    · refine ite_no (by rw [hn, h3]; rfl) (ite_ok (fun h => hk _ _ ⟨?_, rfl⟩) fun h => hk _ _ ⟨?_, rfl⟩)
      · have h : tail.isEmpty = false := by rwa [Bool.not_eq_true'] at h
        rw [h, decide_eq_true h3]
        cases tail.tail <;> rfl
      · have h : tail.isEmpty = true := by rwa [Bool.not_eq_false'] at h
        rw [h, decide_eq_true h3]
        rfl
    · refine ite_yes ?_ (hk _ _ ⟨by rw [decide_eq_false h3]; rfl, rfl⟩)
      rw [hn, bne_iff_ne]
      omega
  rintro b w' ⟨rfl, hw⟩
  replace hw := hw.symm
  subst hw
  refine ite_ok (fun h => zero4_ok B3 fun w' G => ?_) fun h => ?_
  · rw [Bool.not_eq_true'] at h
    refine bad ?_ rfl (one F13 G)
    rw [hver]
    revert h
    generalize decide ((parts core).length = 3) = x
    generalize (tail.isEmpty || !tail.tail.isEmpty) = y
    cases x <;> cases y <;> simp
  rw [Bool.not_eq_false', Bool.and_eq_true] at h
  obtain ⟨h3, hc⟩ := h
  rw [h3, hc, Bool.true_and, Bool.and_true] at hver
  have h3 := of_decide_eq_true h3
  refine new_ok fun w4 m12 hm12 hs4 B12 F4 => ?_
  have hm := F1.size
  refine join0_ok (fun w' => (parts core).all numOk = true ∧ (∃ xs : List Int, xs.length = 3 ∧ (∀ x ∈ xs, 0 ≤ x ∧ x ≤ 999999) ∧ Blk w' m12 191 (xs.map (.int .i64))) ∧ Fr (oneB m12) w4 w') (fun kend hkend => ?_) ?_
  · refine count_ok l5.n (by omega) (fun k w' => (∀ i x, i < k → (parts core)[i]? = some x → numOk x = true) ∧ (∃ xs : List Int, xs.length = 3 ∧ (∀ x ∈ xs, 0 ≤ x ∧ x ≤ 999999) ∧ Blk w' m12 191 (xs.map (.int .i64))) ∧ Fr (oneB m12) w4 w') (fun rec k w5 hk hI hrec => ?_)
      ⟨fun i x h => by omega, ⟨[0, 0, 0], rfl, by simp, B12⟩, Fr.refl _ _⟩
    obtain ⟨hall, ⟨xs, hxl, hxr, B5⟩, F5⟩ := hI
    have F35 : Fr noB w3 w5 := F4.then F5 fun y hy h => by unfold oneB at h; omega
    refine ite_ok (fun hlt => ?_) fun hge => hkend _ ⟨?_, ⟨xs, hxl, hxr, B5⟩, F5⟩
    · have hlt : k < l5.n := by have : (k : Int) < (l5.n : Int) := of_decide_eq_true hlt
                                omega
      obtain ⟨x, a, hx, ha, hc, hidx⟩ := hR.at (k := k) (by rw [List.length_map]; omega)
      rw [List.getElem?_map, Option.map_eq_some_iff] at hx
      obtain ⟨y, hy, rfl⟩ := hx
      rw [ha]
      have hyl : y.length ≤ core.length := parts_each y (List.mem_of_getElem? hy)
      have hys := bs_size y
      refine join_in (hidx (ld_ok (c := .str) (hc _ F35) ?_))
      have hnum : numOk y = (digits y && decide (y.length ≤ 6) && (decide (y.length ≤ 1) || y.head? != some 48)) := rfl
      refine join1_ok (c := .bool) (fun (b : Bool) w' => b = !numOk y ∧ Fr noB w5 w') (fun kj hkj => ?_) ?_
      · refine callB_ok (digits_ok (bs y) (by omega)) fun w6 F6 => ?_
        rw [bl_bs]
        refine ite_ok (fun h => hkj _ _ ⟨?_, F6⟩) fun h => ite_ok (fun h6 => hkj _ _ ⟨?_, F6⟩) fun h6 => ite_ok (fun h1 => ?_) fun h1 => hkj _ _ ⟨?_, F6⟩
        · rw [Bool.not_eq_true'] at h
          rw [hnum, h]
          rfl
        · have h6 : ((bs y).size : Int) > 6 := of_decide_eq_true h6
          rw [hnum, decide_eq_false (p := y.length ≤ 6) (by omega), Bool.and_false]
          rfl
        · have h1 : ((bs y).size : Int) > 1 := of_decide_eq_true h1
          have h6 : ¬ ((bs y).size : Int) > 6 := of_decide_eq_false h6
          rw [Bool.not_eq_false'] at h
          refine chr_ok (i := 0) (by omega) (hkj _ _ ⟨?_, F6⟩)
          rw [hnum, h, decide_eq_true (p := y.length ≤ 6) (by omega), decide_eq_false (p := y.length ≤ 1) (by omega)]
          cases y with
          | nil => simp only [List.length_nil] at hys; omega
          | cons c r =>
            have e0 : (bl (bs (c :: r)))[0]'(by rw [bl_length]; omega) = c := by simp [bl_bs]
            rw [e0, u8_lit c 48 (z := 48) rfl]
            by_cases hc : c = 48
            · subst hc; rfl
            · rw [beq_eq_false_iff_ne.2 hc]; simp only [List.head?_cons, Bool.true_and, Bool.false_or]; simp [hc]
        · have h1 : ¬ ((bs y).size : Int) > 1 := of_decide_eq_false h1
          rw [Bool.not_eq_false'] at h
          rw [hnum, h, decide_eq_true (p := y.length ≤ 6) (by omega), decide_eq_true (p := y.length ≤ 1) (by omega)]
          rfl
      rintro b w6 ⟨rfl, F6⟩
      have F36 := F35.tr F6
      have B36 := B3.fr F36 (fun h => h)
      have B6 := B5.fr F6 (fun h => h)
      refine ite_ok (fun h => zero4_ok B36 fun w' G => bad ?_ rfl (one (F13.tr F36) G)) fun h => ?_
      · rw [Bool.not_eq_true'] at h
        have : (parts core).all numOk = false := by
          rw [Bool.eq_false_iff]
          intro e
          have := List.all_eq_true.1 e y (List.mem_of_getElem? hy)
          rw [h] at this
          cases this
        rw [hver, this]
        rfl
      rw [Bool.not_eq_false'] at h
      have hh := h
      rw [hnum] at hh
      simp only [Bool.and_eq_true, decide_eq_true_eq] at hh
      refine atoi_ok (bs y) (by rw [bl_bs]; exact hh.1.1) (by omega) fun v w7 hv F7 => ?_
      have B7 := B6.fr F7 (fun h => h)
      refine idxB_ok (i := k) (by omega) ?_
      rw [Nat.zero_add, Nat.mul_one]
      refine B7.st rfl (by rw [List.length_map]; omega) fun w8 B8 F8 => hrec hlt _ ⟨fun i z hi hz => ?_, ⟨xs.set k v, by rw [List.length_set]; exact hxl, fun x hx => ?_, ?_⟩, ((F5.then F6 fun _ _ h => h.elim).then F7 fun _ _ h => h.elim).sq F8⟩
      · rcases Nat.lt_succ_iff_lt_or_eq.1 hi with hi | rfl
        · exact hall i z hi hz
        · rw [hy] at hz
          cases hz
          exact h
      · rcases List.mem_or_eq_of_mem_set hx with hx | rfl
        · exact hxr x hx
        · omega
      · rw [List.map_set]
        exact B8
    · have hge : ¬ (k : Int) < (l5.n : Int) := of_decide_eq_false hge
      rw [List.all_eq_true]
      intro x hx
      obtain ⟨i, hi⟩ := List.mem_iff_getElem?.1 hx
      exact hall i x (by have := (List.getElem?_eq_some_iff.1 hi).1; omega) hi
  rintro w5 ⟨hnums, ⟨xs, hxl, hxr, B5⟩, F5⟩
  rw [hnums, Bool.true_and] at hver
  match xs, hxl with
  | [x0, x1, x2], _ =>
    have hx0 := hxr x0 (by simp)
    have hx1 := hxr x1 (by simp)
    have hx2 := hxr x2 (by simp)
    have F35 : Fr noB w3 w5 := F4.then F5 fun y hy h => by unfold oneB at h; omega
    refine idxB_ok (i := 0) (by omega) (B5.ld (c := .int .i64) (x := x0) rfl (idxB_ok (i := 1) (by omega) (B5.ld (c := .int .i64) (x := x1) rfl (idxB_ok (i := 2) (by omega) (B5.ld (c := .int .i64) (x := x2) rfl ?_)))))
    refine new_ok fun w6 m36 hm36 hs6 B36 F6 => ?_
    have F36 := F35.tr F6
    refine B36.st (o := 0) rfl (by simp) fun w7 B37 F7 => B37.st (o := 1) rfl (by simp) fun w8 B38 F8 => B38.st (o := 2) rfl (by simp) fun w9 B39 F9 => B39.st (o := 3) rfl (by simp) fun w10 B40 F10 => ?_
    have F3x : Fr noB w3 w10 := F36.then (((F7.sq F8).sq F9).sq F10) fun y hy h => by have := F35.size; unfold oneB at h; omega
    have B3x := B3.fr F3x (fun h => h)
    refine B40.ld (c := .int .i64) (x := x0) (o := 0) rfl (B40.ld (c := .int .i64) (x := x1) (o := 1) rfl (B40.ld (c := .int .i64) (x := x2) (o := 2) rfl (B40.ld (c := .str) (x := bs tail.tail) (o := 3) rfl ?_)))
    have hts := bs_size tail.tail
    refine callI_ok (Check_ok hx0 hx1 hx2 (bs tail.tail) (by omega) (hg.fr (F13.tr F3x))) fun w11 F11 => ?_
    have F3y := F3x.tr F11
    have B3y := B3.fr F3y (fun h => h)
    rw [bl_bs, ← hver]
    rcases Bool.eq_false_or_eq_true (verOk (bl s)) with hv | hv
    rotate_left
    · exact ite_yes (by rw [hv]; rfl) (zero4_ok B3y fun w' G => bad hv (by rw [hv]; rfl) (one (F13.tr F3y) G))
    · 
      have B41 := B40.fr F11 (fun h => h)
      refine ite_no (by rw [hv]; rfl) (B41.ld (c := .int .i64) (x := x0) (o := 0) rfl (B41.ld (c := .int .i64) (x := x1) (o := 1) rfl (B41.ld (c := .int .i64) (x := x2) (o := 2) rfl (B41.ld (c := .str) (x := bs tail.tail) (o := 3) rfl ?_))))
      refine B3y.st (o := 0) rfl (by simp) fun w12 B12 G1 => B12.st (o := 1) rfl (by simp) fun w13 B13 G2 => B13.st (o := 2) rfl (by simp) fun w14 B14 G3 => B14.st (o := 3) rfl (by simp) fun w15 B15 G4 => ?_
      exact B15.ld (c := .int .i64) (x := x0) (o := 0) rfl (B15.ld (c := .int .i64) (x := x1) (o := 1) rfl (B15.ld (c := .int .i64) (x := x2) (o := 2) rfl (B15.ld (c := .str) (x := bs tail.tail) (o := 3) rfl ⟨⟨x0, x1, x2, bs tail.tail, by rw [hv]; rfl⟩, one (F13.tr F3y) (((G1.sq G2).sq G3).sq G4)⟩)))
end
end Go.Proofs.YticokfpaoiekgaaGreatDoor
end
section
namespace Go.Lex
variable {c : UInt8} {r : List UInt8}
theorem first_word (h : (small c || great c) = true) : first (c :: r) = if isWord ((c :: r).takeWhile rest) then .ok (5, (c :: r).takeWhile rest, ((c :: r).takeWhile rest).length) else if isName ((c :: r).takeWhile rest) then .ok (1, (c :: r).takeWhile rest, ((c :: r).takeWhile rest).length)
    else if isUpper ((c :: r).takeWhile rest) then .ok (2, (c :: r).takeWhile rest, ((c :: r).takeWhile rest).length) else .error ⟨60, 0⟩ := by
  unfold first
  simp only []
  rw [if_pos h]
theorem first_num (h : (small c || great c) = false) (h2 : digit c = true) : first (c :: r) = if number ((c :: r).takeWhile lump) then .ok (3, (c :: r).takeWhile lump, ((c :: r).takeWhile lump).length) else if verOk ((c :: r).takeWhile lump) then .ok (7, (c :: r).takeWhile lump, ((c :: r).takeWhile lump).length) else .error ⟨60, 0⟩ := by
  unfold first
  simp only []
  rw [if_neg (by rw [h]; decide), if_pos h2]
theorem first_text : first (34 :: r) = match quotedL 1 r [] with
    | .ok (t, n) => .ok (4, t, n)
    | .error e => .error e := rfl
theorem first_sign (h : (small c || great c) = false) (h2 : digit c = false) (h3 : c ≠ 34) : first (c :: r) = if 2 ≤ (c :: r).length ∧ isSign ((c :: r).take 2) then .ok (6, (c :: r).take 2, 2) else if isSign ((c :: r).take 1) then .ok (6, (c :: r).take 1, 1) else .error ⟨60, 0⟩ := by
  unfold first
  simp only []
  rw [if_neg (by rw [h]; decide), if_neg (by rw [h2]; decide), if_neg h3]
end Go.Lex
namespace Go.Lift
theorem callVer_ok {P : Program} {R : Ending → World → Prop} {w : World} {f : FuncId} {args : Array Value} {Y : World → Prop} {x : Int}
    (hc : Calls P f args w fun en w' => (∃ (x0 x1 x2 : Int) (p : ByteArray), en = .returned (.tuple #[.agg #[.int .i64 x0, .int .i64 x1, .int .i64 x2, .string p], .int .i64 x])) ∧ Y w')
    {k : Int → Int → Int → ByteArray → Int → G} (h : ∀ x0 x1 x2 p w', Y w' → k x0 x1 x2 p x R w') : callG P f args [.agg [.int .i64, .int .i64, .int .i64, .str], .one (.int .i64)] k R w :=
  call_ok hc fun _ w' ⟨⟨x0, x1, x2, p, he⟩, hy⟩ => ⟨((x0, x1, x2, p, ()), (x, ()), ()), he, h x0 x1 x2 p w' hy⟩
end Go.Lift
namespace Go.Proofs.YticokfpaoiekgaaGreatDoor
open Go.Lift Go.Lex
structure At (w0 w : World) (b m1 m8 : Nat) (s : ByteArray) (i j : Nat) (acc : List Tok) (e a : Int) : Prop where
  st : St w b s j acc e a
  b1 : Blk w m1 114 [.pointer (some ⟨b, 0, none⟩)]
  b8 : Blk w m8 3 [.int .i64 (i : Int)]
  n1 : m1 ≠ b
  n8 : m8 ≠ b
  fr : Fr (bh b) w0 w
section
variable {w0 w w' : World} {b m1 m8 : Nat} {s : ByteArray} {i j : Nat} {acc : List Tok} {e a : Int}
theorem At.go (A : At w0 w b m1 m8 s i j acc e a) (F : Fr noB w w') : At w0 w' b m1 m8 s i j acc e a :=
  ⟨A.st.fr F, A.b1.fr F (fun h => h), A.b8.fr F (fun h => h), A.n1, A.n8, A.fr.sq (F.up b)⟩
theorem At.set {j' : Nat} {e' a' : Int} (A : At w0 w b m1 m8 s i j acc e a) (S : St w' b s j' acc e' a') (F : Fr (oneB b) w w') : At w0 w' b m1 m8 s i j' acc e' a' :=
  ⟨S, A.b1.fr F (fun h => A.n1 h), A.b8.fr F (fun h => A.n8 h), A.n1, A.n8, A.fr.sq F.one⟩
def TokP (w0 : World) (b : Nat) (s : ByteArray) (i : Nat) (acc : List Tok) (e a : Int) : Ending → World → Prop := fun en w' => match first ((bl s).drop i) with
  | .ok (k, T, n) => en = .returned (.bool true) ∧ St w' b s (i + n) (acc ++ [⟨k, T, i⟩]) e a ∧ Fr (bh b) w0 w'
  | .error f => en = .returned (.bool false) ∧ (∃ i', St w' b s i' acc (f.err : Int) ((i + f.at' : Nat) : Int)) ∧ Fr (bh b) w0 w'
theorem add_done {k n : Nat} {T : ByteArray} (A : At w0 w b m1 m8 s i j acc e a) (hf : first ((bl s).drop i) = .ok (k, bl T, n)) (hj : j = i + n) (hacc : acc.length ≤ 1000000) :
    Calls Tryz.prog 139 #[.int .i64 (k : Int), .string T, .pointer (some ⟨m1, 0, none⟩), .pointer (some ⟨m8, 0, none⟩)] w fun en w' => en = .returned (.bool true) ∧ TokP w0 b s i acc e a en w' ∧ Blk w' m1 114 [.pointer (some ⟨b, 0, none⟩)] := by
  subst hj
  refine (add_ok' A.st A.b1 A.b8 A.n8 A.n1 hacc).mono fun en w' ⟨he, hS, hF, hB⟩ => ⟨he, ?_, hB⟩
  unfold TokP
  rw [hf]
  exact ⟨he, hS, A.fr.sq hF⟩
theorem add_ret {k n : Nat} {T : ByteArray} (A : At w0 w b m1 m8 s i j acc e a) (hf : first ((bl s).drop i) = .ok (k, bl T, n)) (hj : j = i + n) (hacc : acc.length ≤ 1000000) :
    callG Tryz.prog 139 #[.int .i64 (k : Int), .string T, .pointer (some ⟨m1, 0, none⟩), .pointer (some ⟨m8, 0, none⟩)] [.one .bool] (fun (x : Bool) => retG (.bool x)) (TokP w0 b s i acc e a) w := by
  refine call_ok (add_done A hf hj hacc) ?_
  rintro _ w' ⟨rfl, hp, _⟩
  exact ⟨((true, ()), ()), rfl, hp⟩
theorem fail_ret (A : At w0 w b m1 m8 s i j acc e a) (hf : first ((bl s).drop i) = .error ⟨60, 0⟩) :
    ldG CT.ptr (Addr.mk m1 0 Option.none) (fun (p : Option Addr) => ldG (CT.int IntKind.i64) (Addr.mk m8 0 Option.none) (fun (n : Int) => callG Tryz.prog 138 #[(Value.pointer p), (Value.int IntKind.i64 (60 : Int)), (Value.int IntKind.i64 n)] [(VT.one CT.bool)] (fun (x : Bool) => retG (Value.bool x)))) (TokP w0 b s i acc e a) w := by
  obtain ⟨l, B, hown⟩ := A.st
  refine A.b1.ld (o := 0) rfl (A.b8.ld (o := 0) rfl (callB_ok (fail_ok B 60 (i : Int)) fun w' ⟨B', F⟩ => ?_))
  show TokP w0 b s i acc e a _ _
  unfold TokP
  rw [hf]
  exact ⟨rfl, ⟨j, l, B', own_one hown F⟩, A.fr.sq F.one⟩
end
end Go.Proofs.YticokfpaoiekgaaGreatDoor
end
