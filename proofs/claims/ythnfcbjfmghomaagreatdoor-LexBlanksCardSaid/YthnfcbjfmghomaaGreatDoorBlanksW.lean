/- LexBlanks: the walk. No condition. -/
import Derived.Test.YthnfcbjfmghomaaGreatDoorLawA
namespace Go.Proofs.YthnfcbjfmghomaaGreatDoor
open Go.Lift Go.Lex
set_option maxHeartbeats 2000000 in
theorem LexBlanks_ok {w : World} (s : ByteArray) (hs : s.size < 4611686018427387904) (hg : Glob w) : AnsB 7 #[.string s] w true := by
  have hsl := bl_length s
  have aw : ∀ {w' : World}, Fr noB w w' → AnsB 18 #[] w' true := fun F => awake_ok (hg.fr F)
  apply c7
  unfold t7
  refine scanBox_ok s hg fun l1 m4 w1 ⟨hm, F1, hsc⟩ => ?_
  cases hq : scan (bl s) with
  | error f =>
    rw [hq] at hsc
    obtain ⟨B, rfl⟩ := hsc
    have he := scan_err hq
    refine join1_ok (c := .bool) (fun (b : Bool) w' => b = true ∧ w' = w1) (fun k hk => B.ld (c := .int .i64) (x := (f.err : Int)) (o := 0) rfl (ite_yes (by rw [bne_iff_ne]; omega) (hk _ _ ⟨rfl, rfl⟩))) ?_
    rintro b w' ⟨rfl, hw⟩
    replace hw := hw.symm
    subst hw
    refine ite_yes rfl ?_
    refine join1_ok (c := .bool) (fun (b : Bool) w' => b = true ∧ Fr noB w w') (fun k hk => ?_) (fun b w' h => done_b h)
    exact B.ld (c := .int .i64) (x := (f.err : Int)) (o := 0) rfl (ite_no (by rw [beq_eq_false_iff_ne]; omega) (ite_yes rfl (callB_ok (aw F1) fun w2 F2 => hk _ _ ⟨rfl, F1.tr F2⟩)))
  | ok l =>
    rw [hq] at hsc
    obtain ⟨B, hown⟩ := hsc
    by_cases hbig : 2000 < s.size
    · refine join1_ok (c := .bool) (fun (b : Bool) w' => b = true ∧ w' = w1) (fun k hk => B.ld (c := .int .i64) (x := 0) (o := 0) rfl (ite_no rfl (hk _ _ ⟨decide_eq_true (by omega), rfl⟩))) ?_
      rintro b w' ⟨rfl, hw⟩
      replace hw := hw.symm
      subst hw
      refine ite_yes rfl ?_
      refine join1_ok (c := .bool) (fun (b : Bool) w' => b = true ∧ Fr noB w w') (fun k hk => ?_) (fun b w' h => done_b h)
      exact B.ld (c := .int .i64) (x := 0) (o := 0) rfl (ite_yes rfl (callB_ok (aw F1) fun w2 F2 => hk _ _ ⟨rfl, F1.tr F2⟩))
    have hsm : (bl s).length ≤ 2000 := by omega
    refine join1_ok (c := .bool) (fun (b : Bool) w' => b = false ∧ w' = w1) (fun k hk => B.ld (c := .int .i64) (x := 0) (o := 0) rfl (ite_no rfl (hk _ _ ⟨decide_eq_false (by omega), rfl⟩))) ?_
    rintro b w' ⟨rfl, hw⟩
    replace hw := hw.symm
    subst hw
    refine ite_no rfl ?_
    refine cat_ok (by show 17 + s.size ≤ _; omega) (cat_ok (by rw [ByteArray.size_append]; show 17 + s.size + 11 ≤ _; omega) ?_)
    refine scanBox_ok _ (hg.fr F1) fun l15 m18 w2 ⟨hm2, F2, H2⟩ => ?_
    obtain ⟨l', rfl, hbl⟩ := scan_blanks hsm hq
    have e14 : bl (ByteArray.mk #[32, 45, 45, 32, 97, 32, 114, 101, 109, 97, 114, 107, 32, 195, 169, 10, 9] ++ s ++ ByteArray.mk #[10, 45, 45, 32, 97, 110, 111, 116, 104, 101, 114]) = Lex.ahead ++ bl s ++ 10 :: Lex.behind := by rw [bl_append, bl_append]; rfl
    rw [e14, hbl] at H2
    obtain ⟨B18, hown15⟩ := H2
    have hlen := scan_small hsm hq
    rw [List.length_append, List.length_singleton] at hlen
    obtain ⟨outs, hsh, hback⟩ := scan_shows hsm hq
    have hsmall := showF_small hsh
    have F12 := F1.tr F2
    have R1 := RdT_own (own_fr0 hown F2)
    have R15 := RdT_own hown15
    have n1 : l1.n = l'.length + 1 := by have := R1.1; simpa using this
    have n15 : l15.n = l'.length + 1 := by have := R15.1; simpa using this
    refine join1_ok (c := .bool) (fun (b : Bool) w' => b = false ∧ Fr noB w2 w') (fun k hk => ?_) ?_
    · refine B18.ld (c := .int .i64) (x := 0) (o := 0) rfl (ite_no rfl (call_ok (Same_ok R15 R1 false (by simp; omega)) ?_))
      rintro _ w3 ⟨r, rfl, hr, F3⟩
      have hr1 : r = true := hr.2 (SameP_tok (by simp [Tok.on, Function.comp_def]))
      subst hr1
      exact ⟨((true, ()), ()), rfl, hk _ _ ⟨rfl, F3⟩⟩
    rintro b w3 ⟨rfl, F3⟩
    refine ite_no rfl ?_
    refine join0_ok (fun w' => Fr noB w2 w') (fun k23 hk23 => ?_) ?_
    · refine count_ok l'.length (by omega) (fun _ w' => Fr noB w2 w') (fun rec k w4 hk F4 hrec => ?_) F3
      have ewk : IntKind.wrap .i64 ((k : Int) + 1) = ((k + 1 : Nat) : Int) := by rw [wrap_ok (by omega) (by omega)]; omega
      by_cases hlt : k < l'.length
      · refine ite_yes (decide_eq_true (by rw [ewk]; omega)) ?_
        refine join0_ok (fun w' => Fr noB w2 w') (fun kj hkj => ?_) fun w5 F5 => hrec hlt _ F5
        refine drew_ok fun w5 F5 z5 => ?_
        obtain ⟨t, ht⟩ : ∃ t, l'[k]? = some t := ⟨_, List.getElem?_eq_getElem hlt⟩
        have ht1 : (l' ++ [⟨0, [], (bl s).length⟩])[k]? = some t := by rw [List.getElem?_append_left hlt]; exact ht
        have ht15 : (l'.map (Tok.on 17) ++ [⟨0, [], (bl s).length + 28⟩])[k]? = some (t.on 17) := by rw [List.getElem?_append_left (by simpa using hlt), List.getElem?_map, ht]; rfl
        obtain ⟨g, o, ha, _, _, c2⟩ := (R15.fr (F4.tr F5)).2 k _ (utok_at ht15)
        obtain ⟨g', o', ha', _, _, c2'⟩ := (R1.fr (F4.tr F5)).2 k _ (utok_at ht1)
        have htat := Plc_at (scan_plc hq) t (List.mem_of_getElem? ht1)
        rw [ha, ha']
        refine idxB_ok (n := l15.n) (i := k) (by omega) ?_
        simp only [Addr.add_lit]
        refine ld_ok (c := .int .i64) c2 (idxB_ok (n := l1.n) (i := k) (by omega) ?_)
        simp only [Addr.add_lit]
        refine ld_ok (c := .int .i64) c2' (ite_no ?_ (hkj _ (F4.tr F5)))
        show ((((t.on 17).at' : Nat) : Int) != IntKind.wrap .i64 (((t.at' : Nat) : Int) + 17)) = false
        have : IntKind.wrap .i64 (((t.at' : Nat) : Int) + 17) = (((t.on 17).at' : Nat) : Int) := by
          rw [wrap_ok (by omega) (by omega)]
          show _ = ((t.at' + 17 : Nat) : Int)
          omega
        rw [this]
        simp
      · exact ite_no (decide_eq_false (by rw [ewk]; omega)) (hk23 _ F4)
    intro w4 F4
    have SH := Show_ok (R1.fr F4) (hg.fr (F12.tr F4)) (fun x hx => by
      obtain ⟨t, ht, rfl⟩ := List.mem_map.1 hx
      have := hsmall _ (List.mem_map_of_mem ht)
      show (bs t.text).size ≤ 20000
      rw [bs_size]
      simp only at this
      omega) (by rw [List.length_map, List.length_append, List.length_singleton]; omega)
    rw [utok_back, hsh] at SH
    refine callSI_ok SH fun w5 F5 => ?_
    have F15 := (F12.tr F4).tr F5
    refine scanBox_ok _ (hg.fr F15) fun l33 m36 w6 ⟨hm6, F6, H6⟩ => ?_
    have F16 := F15.tr F6
    have hjs := bs_size (Lib.join outs [32])
    rw [bl_bs] at H6
    refine join1_ok (c := .bool) (fun (b : Bool) w' => b = true ∧ Fr noB w w') (fun k hk => ?_) (fun b w' h => done_b h)
    refine ite_yes rfl ?_
    by_cases hjb : 4096 < (Lib.join outs [32]).length
    · exact ite_yes (decide_eq_true (by omega)) (callB_ok (aw F16) fun w7 F7 => hk _ _ ⟨rfl, F16.tr F7⟩)
    · refine ite_no (decide_eq_false (by omega)) ?_
      obtain ⟨kk, hsk, hkk⟩ := hback (by omega)
      rw [hsk] at H6
      obtain ⟨B36, hown33⟩ := H6
      have R33 := RdT_own hown33
      have hk4 := scan_len hsk
      refine B36.ld (c := .int .i64) (x := 0) (o := 0) rfl (ite_yes rfl (call_ok (Same_ok R33 (R1.fr ((F4.tr F5).tr F6)) false (by rw [List.length_map]; omega)) ?_))
      rintro _ w7 ⟨r, rfl, hr, F7⟩
      have hr1 : r = true := hr.2 (SameP_tok hkk)
      subst hr1
      exact ⟨((true, ()), ()), rfl, ite_yes (y := k false) rfl (callB_ok (aw (F16.tr F7)) fun w8 F8 => hk _ _ ⟨rfl, (F16.tr F7).tr F8⟩)⟩
end Go.Proofs.YthnfcbjfmghomaaGreatDoor
