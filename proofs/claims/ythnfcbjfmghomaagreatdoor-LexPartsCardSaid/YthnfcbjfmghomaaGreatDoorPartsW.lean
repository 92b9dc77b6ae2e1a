/- LexParts: the walk. No condition. -/
import Derived.Test.YthnfcbjfmghomaaGreatDoorLawA
namespace Go.Proofs.YthnfcbjfmghomaaGreatDoor
open Go.Lift Go.Lex
set_option maxHeartbeats 2000000 in
theorem LexParts_ok {w : World} (s0 s1 : ByteArray) (h0 : s0.size < 4611686018427387904) (h1 : s1.size < 4611686018427387904) (hg : Glob w) : AnsB 8 #[.string s0, .string s1] w true := by
  have hsl0 := bl_length s0
  have hsl1 := bl_length s1
  apply c8
  unfold t8
  refine ite_ok (fun _ => callB_ok (awake_ok hg) fun w2 F2 => ⟨rfl, F2⟩) fun hsm => ?_
  have hsm : s0.size + s1.size < 4096 := by
    have := of_decide_eq_false hsm
    rw [wrap_ok (by omega) (by omega)] at this
    omega
  refine scanBox_ok s0 hg fun l3 m6 w1 ⟨hm1, F1, H1⟩ => ?_
  refine scanBox_ok s1 (hg.fr F1) fun l7 m10 w2 ⟨hm2, F2, H2⟩ => ?_
  refine cat_ok (by show s0.size + 1 ≤ _; omega) (cat_ok (by rw [ByteArray.size_append]; show s0.size + 1 + s1.size ≤ _; omega) ?_)
  refine scanBox_ok _ (hg.fr (F1.tr F2)) fun l13 m16 w3 ⟨hm3, F3, H3⟩ => ?_
  have e12 : bl (s0 ++ ByteArray.mk #[10] ++ s1) = bl s0 ++ 10 :: bl s1 := by rw [bl_append, bl_append, List.append_assoc]; rfl
  rw [e12, scan_parts (by omega)] at H3
  have F13 := (F1.tr F2).tr F3
  have aw : ∀ {w' : World}, Fr noB w w' → AnsB 18 #[] w' true := fun F => awake_ok (hg.fr F)
  have ew1 : IntKind.wrap .i64 ((s0.size : Int) + 1) = ((s0.size + 1 : Nat) : Int) := by rw [wrap_ok (by omega) (by omega)]; omega
  cases hq0 : scan (bl s0) with
  | error f =>
    rw [hq0] at H1 H3
    obtain ⟨B6, rfl⟩ := H1
    obtain ⟨B16, rfl⟩ := H3
    have he := scan_err hq0
    have B6' := B6.fr (F2.tr F3) (fun h => h)
    refine B6'.ld (c := .int .i64) (x := (f.err : Int)) (o := 0) rfl (ite_yes (by rw [bne_iff_ne]; omega) ?_)
    refine join1_ok (c := .bool) (fun (b : Bool) w' => b = true ∧ Fr noB w w') (fun k hk => ?_) (fun b w' h => done_b h)
    refine ite_yes rfl (B16.ld (c := .int .i64) (x := (f.err : Int)) (o := 0) rfl (ite_yes (by rw [bne_iff_ne]; omega) ?_))
    refine B16.ld (c := .int .i64) (x := (f.at' : Int)) (o := 1) rfl (B6'.ld (c := .int .i64) (x := (f.at' : Int)) (o := 1) rfl (ite_yes (decide_eq_true (by omega)) ?_))
    exact callB_ok (aw F13) fun w4 F4 => hk _ _ ⟨rfl, F13.tr F4⟩
  | ok l =>
    rw [hq0] at H1 H3
    obtain ⟨B6, hown3⟩ := H1
    have B6' := B6.fr (F2.tr F3) (fun h => h)
    refine B6'.ld (c := .int .i64) (x := 0) (o := 0) rfl (ite_no rfl ?_)
    cases hq1 : scan (bl s1) with
    | error g =>
      rw [hq1] at H2 H3
      simp only [moved] at H3
      obtain ⟨B10, rfl⟩ := H2
      obtain ⟨B16, rfl⟩ := H3
      have he := scan_err hq1
      have hend := scan_end (s := bl s1)
      rw [hq1] at hend
      simp only [] at hend
      have B10' := B10.fr F3 (fun h => h)
      refine B10'.ld (c := .int .i64) (x := (g.err : Int)) (o := 0) rfl (ite_yes (by rw [bne_iff_ne]; omega) ?_)
      refine join1_ok (c := .bool) (fun (b : Bool) w' => b = true ∧ Fr noB w w') (fun k hk => ?_) (fun b w' h => done_b h)
      refine ite_yes rfl (B16.ld (c := .int .i64) (x := (g.err : Int)) (o := 0) rfl (B16.ld (c := .int .i64) (x := ((g.at' + ((bl s0).length + 1) : Nat) : Int)) (o := 1) rfl ?_))
      refine B10'.ld (c := .int .i64) (x := (g.err : Int)) (o := 0) rfl (B10'.ld (c := .int .i64) (x := (g.at' : Int)) (o := 1) rfl ?_)
      refine eqF_ok rfl ?_ (ite_yes rfl (callB_ok (aw F13) fun w4 F4 => hk _ _ ⟨rfl, F13.tr F4⟩))
      rw [ew1, wrap_ok (by omega) (by omega)]
      omega
    | ok m =>
      rw [hq1] at H2 H3
      simp only [moved] at H3
      obtain ⟨B10, hown7⟩ := H2
      obtain ⟨B16, hown13⟩ := H3
      have B10' := B10.fr F3 (fun h => h)
      refine B10'.ld (c := .int .i64) (x := 0) (o := 0) rfl (ite_no rfl ?_)
      have hend0 := scan_end (s := bl s0)
      rw [hq0] at hend0
      obtain ⟨l', rfl⟩ := hend0
      rw [List.dropLast_concat] at hown13
      have hplm := scan_plc hq1
      obtain ⟨g3, cur3, ha3, hn3, hc3, hcm3, hb3, hlt3, Bg3, htk3⟩ := own_blk (by simp) hown3
      obtain ⟨g7, cur7, ha7, hn7, hc7, hcm7, hb7, hlt7, Bg7, htk7⟩ := own_blk hplm.ne hown7
      rw [List.length_append, List.length_singleton] at hn3 htk3
      have hl3 : l'.length ≤ 4097 := by
        have := scan_len hq0
        rw [List.length_append, List.length_singleton] at this
        omega
      have hl7 : m.length ≤ 4097 := by
        have := scan_len hq1
        omega
      refine ite_no (by rw [beq_eq_false_iff_ne]; omega) ?_
      refine new_ok fun w4 m33 hm33 hs4 B33 F4 => assume_ok (decide_eq_true (by omega)) ?_
      have ew3 : IntKind.wrap .i64 ((l3.n : Int) - 1) = ((l'.length : Nat) : Int) := by rw [wrap_ok (by omega) (by omega)]; omega
      rw [ew3, ha3]
      refine reslice_ok (l := 0) (h' := ((l'.length : Nat) : Int)) (m := (l3.c : Int)) (Int.le_refl _) (by omega) (by omega) (by omega) ?_
      have ep : (if (l3.c : Int).toNat = (0 : Int).toNat then (some (⟨g3, 0, none⟩ : Addr)) else (some (⟨g3, 0, none⟩ : Addr)).map (·.add ((0 : Int).toNat * 3))) = some ⟨g3, 0, none⟩ := by
        split
        · rfl
        · rfl
      rw [ep, Int.toNat_natCast, Int.toNat_natCast, show (0 : Int).toNat = 0 from rfl, Nat.sub_zero, Nat.sub_zero]
      have own33 : w4.ownsRow w3.heap.size 32 3 (.slice (some ⟨m33, 0, none⟩) 0 0) 0 [] := ⟨rfl, .inr ⟨m33, 0, #[], rfl, by omega, B33, Nat.le_refl _, by unfold maxLen; omega, rfl, rfl⟩⟩
      obtain ⟨ti, z, hi, hz, e1, e2, e3⟩ := rTok
      have Bg3' := Bg3.fr ((F2.tr F3).tr F4) (fun h => h)
      refine appendC_ok uToks hi hz e1 e2 (by rw [e3]; rfl) (by omega) (s := ⟨some ⟨m33, 0, none⟩, 0, 0⟩) own33 (m := l'.length) (news := l'.flatMap tokCells) (flat_length tokCells 3 (fun _ _ => rfl)) (Bg3'.held fun j v hj => ?_) (fun u hu => ?_) (by unfold maxLen; omega) (by omega) (by omega) fun l37 w5 hown5 F5 => ?_
      · have : ((l' ++ [(⟨0, [], (bl s0).length⟩ : Tok)]).flatMap tokCells)[j]? = some v := by
          rw [List.flatMap_append]
          exact List.getElem?_append_left (List.getElem?_eq_some_iff.1 hj).1 ▸ hj
        rw [← htk3] at this
        rw [Nat.zero_add]
        exact take_some this
      · obtain ⟨t, _, ht⟩ := List.mem_flatMap.1 hu
        simp only [tokCells, List.mem_cons, List.not_mem_nil, or_false] at ht
        rcases ht with rfl | rfl | rfl <;> rfl
      rw [List.nil_append, Nat.zero_add] at hown5
      have F35 : Fr noB w3 w5 := F4.then F5 fun y hy h => by
        simp only [Value.ownBlock, Option.some.injEq] at h
        omega
      have Bg7' := Bg7.fr (F3.tr F35) (fun h => h)
      have hs2 := F2.size
      have hs3 := F3.size
      have hs35 := F35.size
      have hlc7 : m.length * 3 ≤ cur7.length := by
        have : (cur7.take (m.length * 3)).length = m.length * 3 := by rw [htk7]; exact flat_length tokCells 3 (fun _ _ => rfl)
        rw [List.length_take] at this
        omega
      have hat7 : ∀ (k j : Nat) (t : Tok) (v : Value), m[k]? = some t → j < 3 → (tokCells t)[j]? = some v → cur7[k * 3 + j]? = some v := fun k j t v hk hj hv => by
        have h2 := flat_at tokCells 3 (l := m) (fun _ _ => rfl) hk j hj
        rw [hv, ← htk7] at h2
        exact take_some h2
      refine join1_ok (c := .slice) (fun (l : Sl) w' => w'.ownsRow w3.heap.size 32 3 (.slice l.a l.n l.c) (l'.length + m.length) ((l' ++ m.map (Tok.on ((bl s0).length + 1))).flatMap tokCells) ∧ Fr (oneB g7) w3 w') (fun k38 hk38 => ?_) ?_
      · refine loop_ok (vs := [.one .slice, .one (.int .i64)]) (fun xs w' => ∃ (k : Nat) (cells : List Value), (show Int from xs.2.1.1) = (k : Int) ∧ k ≤ m.length ∧ Blk w' g7 32 cells ∧ cells.length = cur7.length ∧ (∀ j, k * 3 ≤ j → cells[j]? = cur7[j]?) ∧
            w'.ownsRow w3.heap.size 32 3 (.slice (show Sl from xs.1.1).a (show Sl from xs.1.1).n (show Sl from xs.1.1).c) (l'.length + k) ((l' ++ (m.take k).map (Tok.on ((bl s0).length + 1))).flatMap tokCells) ∧ Fr (oneB g7) w3 w')
          (fun xs => m.length - (show Int from xs.2.1.1).toNat) ?_ (xs := ((l37, ()), (((0 : Int), ()), ()))) ⟨0, cur7, rfl, Nat.zero_le _, Bg7', rfl, fun _ _ => rfl, by simpa using hown5, F35.mono fun _ _ h => h.elim⟩
        rintro rec ⟨⟨l40, ⟨⟩⟩, ⟨⟨n, ⟨⟩⟩, ⟨⟩⟩⟩ w6 ⟨k, cells, hk, hkl, Bk, hcl, hck, hown6, F6⟩ hrec
        change Sl at l40
        change Int at n
        change n = _ at hk
        subst hk
        change w6.ownsRow _ _ _ (.slice l40.a l40.n l40.c) _ _ at hown6
        refine ite_ok (fun hlt => ?_) fun hge => hk38 _ _ ⟨?_, F6⟩
        rotate_left
        · have hge : ¬ (k : Int) < (l7.n : Int) := of_decide_eq_false hge
          have e : k = m.length := by omega
          rw [e, List.take_length] at hown6
          exact hown6
        have hlt : (k : Int) < (l7.n : Int) := of_decide_eq_true hlt
        obtain ⟨t, ht⟩ : ∃ t, m[k]? = some t := ⟨_, List.getElem?_eq_getElem (by omega)⟩
        have htat := Plc_at hplm t (List.mem_of_getElem? ht)
        have ewk : IntKind.wrap .i64 ((k : Int) + 1) = ((k + 1 : Nat) : Int) := by rw [wrap_ok (by omega) (by omega)]; omega
        have c0 : cells[k * 3]? = some (.int .i64 (t.kind : Int)) := by rw [hck _ (Nat.le_refl _)]; exact hat7 k 0 t _ ht (by omega) rfl
        have c1 : cells[k * 3 + 1]? = some (.string (bs t.text)) := by rw [hck _ (by omega)]; exact hat7 k 1 t _ ht (by omega) rfl
        have c2 : cells[k * 3 + 2]? = some (.int .i64 (t.at' : Int)) := by rw [hck _ (by omega)]; exact hat7 k 2 t _ ht (by omega) rfl
        refine join_in (vs := [.one .slice]) ?_
        rw [ha7]
        have i0 : ∀ {K : Addr → G} {R : Ending → World → Prop} {w' : World}, K ⟨g7, 0 + k * 3, none⟩ R w' → idxG (some ⟨g7, 0, none⟩) l7.n (k : Int) 3 K R w' := fun hK => idxB_ok (by omega) hK
        refine i0 ?_
        simp only [Addr.add_lit, Nat.zero_add]
        refine Bk.ld (c := .int .i64) (x := (t.at' : Int)) c2 (i0 ?_)
        simp only [Addr.add_lit, Nat.zero_add]
        have ew2 : IntKind.wrap .i64 ((t.at' : Int) + IntKind.wrap .i64 ((s0.size : Int) + 1)) = ((t.at' + ((bl s0).length + 1) : Nat) : Int) := by rw [ew1, wrap_ok (by omega) (by omega)]; omega
        rw [ew2]
        refine Bk.st (o := k * 3 + 2) rfl (by omega) fun w7 B7 F7 => i0 ?_
        simp only [Addr.add_lit, Nat.zero_add]
        have d0 : (cells.set (k * 3 + 2) (.int .i64 ((t.at' + ((bl s0).length + 1) : Nat) : Int)))[k * 3]? = some (.int .i64 (t.kind : Int)) := by rw [List.getElem?_set_ne (by omega)]; exact c0
        have d1 : (cells.set (k * 3 + 2) (.int .i64 ((t.at' + ((bl s0).length + 1) : Nat) : Int)))[k * 3 + 1]? = some (.string (bs t.text)) := by rw [List.getElem?_set_ne (by omega)]; exact c1
        have d2 : (cells.set (k * 3 + 2) (.int .i64 ((t.at' + ((bl s0).length + 1) : Nat) : Int)))[k * 3 + 2]? = some (.int .i64 ((t.at' + ((bl s0).length + 1) : Nat) : Int)) := by rw [List.getElem?_set_self (by omega)]
        refine B7.ld (c := .int .i64) (x := (t.kind : Int)) d0 (B7.ld (c := .str) (x := bs t.text) d1 (B7.ld (c := .int .i64) (x := ((t.at' + ((bl s0).length + 1) : Nat) : Int)) d2 (new_ok fun w8 m50 hm50 hs8 B50 F8 => ?_)))
        have own7 := own_fr (own_fr hown6 F7 fun b hb h => by
          have := (hown6.lt b hb).1
          unfold oneB at h
          omega) F8 fun _ _ h => h
        have hs6 := F6.size
        have hs7 := F7.size
        have hs8 := F8.size
        refine appendC_ok uToks hi hz e1 e2 (by rw [e3]; rfl) (by omega) (s := l40) own7 (m := 1) (news := tokCells (t.on ((bl s0).length + 1))) rfl (B50.held fun j v hj => by rw [Nat.zero_add]; exact hj) (fun u hu => ?_) (by unfold maxLen; omega) (by omega) (by omega) fun l51 w9 hown9 F9 => ?_
        · simp only [tokCells, List.mem_cons, List.not_mem_nil, or_false] at hu
          rcases hu with rfl | rfl | rfl <;> rfl
        have g7ne : ∀ b, (Value.slice l40.a l40.n l40.c).ownBlock = some b → b ≠ g7 := fun b hb => by
          have := (own7.lt b hb).1
          omega
        show uncV rec ((l51, ()), ((IntKind.wrap .i64 ((k : Int) + 1), ()), ())) _ w9
        rw [ewk]
        refine hrec _ _ ⟨k + 1, _, rfl, by omega, (B7.fr F8 (fun h => h)).fr F9 (fun h => g7ne _ h rfl), by rw [List.length_set]; exact hcl, fun j hj => by rw [List.getElem?_set_ne (by omega)]; exact hck j (by omega), ?_, ?_⟩ (by show m.length - ((k + 1 : Nat) : Int).toNat < m.length - ((k : Nat) : Int).toNat; simp only [Int.toNat_natCast]; omega)
        · have e : m.take (k + 1) = m.take k ++ [t] := by rw [List.take_add_one, ht]; rfl
          rw [e, List.map_append, ← List.append_assoc, List.flatMap_append]
          rw [Nat.add_assoc] at hown9
          simpa using hown9
        · refine ((F6.sq F7).then F8 fun _ _ h => h.elim).then F9 fun y hy h => ?_
          have := (own7.lt y h).1
          omega
      rintro l53 w6 ⟨hown6, F6⟩
      have F6' : Fr noB w w6 := F13.then F6 fun y hy h => by
        have := F1.size
        unfold oneB at h
        omega
      have B16' := B16.fr F6 (fun h => by unfold oneB at h; omega)
      refine join1_ok (c := .bool) (fun (b : Bool) w' => b = true ∧ Fr noB w w') (fun k hk => ?_) (fun b w' h => done_b h)
      refine B16'.ld (c := .int .i64) (x := 0) (o := 0) rfl (B16'.ld (c := .int .i64) (x := 0) (o := 1) rfl (eqF_ok rfl rfl (ite_yes rfl ?_)))
      have R13 := RdT_own (own_fr hown13 F6 fun b hb h => by
        have := (hown13.lt b hb).1
        unfold oneB at h
        omega)
      have R53 := RdT_own (by rw [List.length_append, List.length_map]; exact hown6 : w6.ownsRow w3.heap.size 32 3 (.slice l53.a l53.n l53.c) (l' ++ m.map (Tok.on ((bl s0).length + 1))).length _)
      refine call_ok (Same_ok R13 R53 true (by rw [List.length_map, List.length_append, List.length_map]; omega)) ?_
      rintro _ w7 ⟨r, rfl, hr, F7⟩
      have hr1 : r = true := hr.2 ⟨rfl, fun i x y hx hy => by rw [hx] at hy; cases hy; exact ⟨rfl, rfl, fun _ => rfl⟩⟩
      subst hr1
      refine ⟨((true, ()), ()), rfl, ?_⟩
      exact ite_yes (y := k false) rfl (callB_ok (aw (F6'.tr F7)) fun w8 F8 => hk _ _ ⟨rfl, (F6'.tr F7).tr F8⟩)
end Go.Proofs.YthnfcbjfmghomaaGreatDoor
