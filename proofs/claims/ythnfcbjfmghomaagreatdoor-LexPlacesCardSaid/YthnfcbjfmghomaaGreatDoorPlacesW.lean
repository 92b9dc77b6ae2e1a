/- LexPlaces: the walk. No condition. -/
import Derived.Test.YthnfcbjfmghomaaGreatDoorLawA
namespace Go.Proofs.YthnfcbjfmghomaaGreatDoor
open Go.Lift Go.Lex
set_option maxHeartbeats 2000000 in
theorem LexPlaces_ok {w : World} (s : ByteArray) (hs : s.size < 4611686018427387904) (hg : Glob w) : AnsB 9 #[.string s] w true := by
  have hsl := bl_length s
  apply c9
  unfold t9
  refine scanBox_ok s hg fun l1 m4 w1 ⟨hm, F1, hsc⟩ => ?_
  cases hq : scan (bl s) with
  | error f =>
    rw [hq] at hsc
    obtain ⟨B, rfl⟩ := hsc
    have he := scan_err hq
    have hend := scan_end (s := bl s)
    rw [hq] at hend
    simp only [] at hend
    refine B.ld (c := .int .i64) (x := (f.err : Int)) (o := 0) rfl (ite_yes (by rw [bne_iff_ne]; omega) ?_)
    refine join1_ok (c := .bool) (fun (b : Bool) w' => b = true ∧ Fr noB w w') (fun k hk => ?_) (fun b w' h => done_b h)
    refine B.ld (c := .int .i64) (x := (f.at' : Int)) (o := 1) rfl (ite_yes (decide_eq_true (by omega)) (B.ld (c := .int .i64) (x := (f.at' : Int)) (o := 1) rfl (ite_yes (decide_eq_true (by omega)) ?_)))
    exact callB_ok (awake_ok (hg.fr F1)) fun w2 F2 => hk _ _ ⟨rfl, F1.tr F2⟩
  | ok l =>
    rw [hq] at hsc
    obtain ⟨B, hown⟩ := hsc
    have hpl := scan_plc hq
    have hR := RdT_own hown
    have hn := hR.1
    rw [List.length_map] at hn
    have hend := scan_end (s := bl s)
    rw [hq] at hend
    obtain ⟨l', hl'⟩ := hend
    have hlen : l.length = l'.length + 1 := by rw [hl']; simp
    have hown' := hown.1
    have hmax : l.length ≤ 9223372036854775807 := by
      rcases hown.2 with ⟨_, h0⟩ | ⟨g, cap, cur, _, _, _, hcap, hc2, _⟩
      · omega
      · unfold maxLen at *
        omega
    refine B.ld (c := .int .i64) (x := 0) (o := 0) rfl (ite_no rfl ?_)
    refine join0_ok (fun w' => Fr noB w1 w') (fun k11 hk11 => ?_) ?_
    · refine loop_ok (vs := [.one (.int .i64), .one (.int .i64)]) (fun xs w' => ∃ k p : Nat, (show Int from xs.1.1) = (p : Int) ∧ (show Int from xs.2.1.1) = (k : Int) ∧ k ≤ l.length ∧ (k < l.length → Plc (bl s) p (l.drop k)) ∧ Fr noB w1 w')
        (fun xs => l.length - (show Int from xs.2.1.1).toNat) ?_ (xs := (((0 : Int), ()), (((0 : Int), ()), ()))) ⟨0, 0, rfl, rfl, Nat.zero_le _, fun _ => by rw [List.drop_zero]; exact hpl, Fr.refl _ _⟩
      rintro rec ⟨⟨p', ⟨⟩⟩, ⟨⟨n, ⟨⟩⟩, ⟨⟩⟩⟩ w2 ⟨k, p, hp, hk, hkl, hP, F2⟩ hrec
      change Int at p'
      change Int at n
      change p' = _ at hp
      change n = _ at hk
      subst hp hk
      refine ite_ok (fun hlt => ?_) fun hge => hk11 _ F2
      have hlt : k < l.length := by
        have : (k : Int) < (l1.n : Int) := of_decide_eq_true hlt
        omega
      obtain ⟨t, ht⟩ : ∃ t, l[k]? = some t := ⟨_, List.getElem?_eq_getElem hlt⟩
      replace hP := hP hlt
      rw [drop_at ht] at hP
      have hP2 : p ≤ t.at' ∧ t.at' ≤ s.size ∧ (t.kind = 0 ↔ k + 1 = l.length) ∧ (t.kind ≠ 4 → t.text.length ≤ s.size - t.at' ∧ ((bl s).drop t.at').take t.text.length = t.text) ∧ (k + 1 < l.length → Plc (bl s) (if t.kind = 4 then t.at' + 2 else t.at' + t.text.length) (l.drop (k + 1))) := by
        cases hr : l.drop (k + 1) with
        | nil =>
          rw [hr] at hP
          have := List.drop_eq_nil_iff.1 hr
          obtain ⟨h1, h2, h3, h4⟩ := hP
          exact ⟨h1, by omega, ⟨fun _ => by omega, fun _ => h3⟩, fun _ => by rw [h4]; exact ⟨Nat.zero_le _, rfl⟩, fun h => by omega⟩
        | cons u r =>
          rw [hr] at hP
          have h9 : (l.drop (k + 1)).length = (u :: r).length := by rw [hr]
          rw [List.length_drop, List.length_cons] at h9
          obtain ⟨h1, h2, h3, h4, h5⟩ := hP
          exact ⟨h1, by omega, ⟨fun h => absurd h h3, fun h => by omega⟩, fun h => by rw [← hsl]; exact h4 h, fun _ => h5⟩
      obtain ⟨hat, hats, hkd, hsub, hnx⟩ := hP2
      obtain ⟨g, o, ha, c0, c1, c2⟩ := (hR.fr F2).2 k (utok t) (utok_at ht)
      have ewk : IntKind.wrap .i64 ((k : Int) + 1) = ((k + 1 : Nat) : Int) := by rw [wrap_ok (by omega) (by omega)]; omega
      have next : ∀ {p2 : Nat} {w' : World}, (k + 1 < l.length → Plc (bl s) p2 (l.drop (k + 1))) → Fr noB w1 w' → uncV rec (((p2 : Int), ()), ((IntKind.wrap .i64 ((k : Int) + 1), ()), ())) _ w' := fun {p2} {w'} h1 h2 => by
        rw [ewk]
        exact hrec _ _ ⟨k + 1, p2, rfl, rfl, by omega, h1, h2⟩ (by show l.length - ((k + 1 : Nat) : Int).toNat < l.length - ((k : Nat) : Int).toNat; simp only [Int.toNat_natCast]; omega)
      refine join_in (vs := [.one (.int .i64)]) ?_
      rw [ha]
      refine idxB_ok (n := l1.n) (i := k) (by omega) ?_
      simp only [Addr.add_lit, Nat.add_zero]
      refine ld_ok (c := .int .i64) c0 (ld_ok (c := .str) c1 (ld_ok (c := .int .i64) c2 (new_ok fun w3 m20 hm20 hs3 B3 F3 => ?_)))
      refine B3.st (o := 0) rfl (by simp) fun w4 B4 F4 => B4.st (o := 1) rfl (by simp) fun w5 B5 F5 => B5.st (o := 2) rfl (by simp) fun w6 B6 F6 => ?_
      have F26 : Fr noB w2 w6 := F3.then ((F4.sq F5).sq F6) fun y hy h => by unfold oneB at h; omega
      change Blk w6 m20 _ [.int .i64 (t.kind : Int), .string (bs t.text), .int .i64 (t.at' : Int)] at B6
      have hsz := bs_size t.text
      refine join1_ok (c := .bool) (fun (b : Bool) w' => b = false ∧ w' = w6) (fun kb hkb => ?_) ?_
      · refine B6.ld (c := .int .i64) (x := (t.at' : Int)) (o := 2) rfl (ite_no (decide_eq_false (by omega)) (B6.ld (c := .int .i64) (x := (t.at' : Int)) (o := 2) rfl (ite_no (decide_eq_false (by omega)) (B6.ld (c := .int .i64) (x := (t.kind : Int)) (o := 0) rfl (hkb _ _ ⟨?_, rfl⟩)))))
        rw [wrap_ok (by omega) (by omega)]
        have : ((t.kind : Int) == 0) = ((k : Int) == (l1.n : Int) - 1) := by
          rw [Bool.eq_iff_iff, beq_iff_eq, beq_iff_eq]
          omega
        rw [this]
        simp
      rintro b w7 ⟨rfl, hw⟩
      replace hw := hw.symm
      subst hw
      refine ite_no rfl (B6.ld (c := .int .i64) (x := (t.kind : Int)) (o := 0) rfl (ite_ok (fun h4 => ?_) fun h4 => ?_))
      · have h4 : (t.kind : Int) = 4 := by simpa using h4
        have h4 : t.kind = 4 := by omega
        rw [if_pos h4] at hnx
        refine B6.ld (c := .int .i64) (x := (t.at' : Int)) (o := 2) rfl ?_
        rw [wrap_ok (by omega) (by omega)]
        exact next hnx (F2.tr F26)
      · have h4 : ¬ (t.kind : Int) = 4 := by simpa using h4
        have h4 : ¬ t.kind = 4 := by omega
        rw [if_neg h4] at hnx
        obtain ⟨hle, htk⟩ := hsub h4
        refine join1_ok (c := .bool) (fun (b : Bool) w' => b = false ∧ Fr noB w6 w') (fun kb hkb => ?_) ?_
        · refine drew_ok fun w7 F7 z7 => ?_
          have B7 := B6.fr F7 (fun h => h)
          refine B7.ld (c := .str) (x := bs t.text) (o := 1) rfl (B7.ld (c := .int .i64) (x := (t.at' : Int)) (o := 2) rfl (ite_no (decide_eq_false (by rw [wrap_ok (by omega) (by omega)]; omega)) ?_))
          refine B7.ld (c := .int .i64) (x := (t.at' : Int)) (o := 2) rfl (B7.ld (c := .int .i64) (x := (t.at' : Int)) (o := 2) rfl (B7.ld (c := .str) (x := bs t.text) (o := 1) rfl ?_))
          have ew : IntKind.wrap .i64 ((t.at' : Int) + ((bs t.text).size : Int)) = ((t.at' + t.text.length : Nat) : Int) := by rw [wrap_ok (by omega) (by omega)]; omega
          rw [ew]
          refine sub_ok (s := s) (l := (t.at' : Int)) (h' := ((t.at' + t.text.length : Nat) : Int)) (by omega) (by omega) (by omega) (B7.ld (c := .str) (x := bs t.text) (o := 1) rfl (hkb _ _ ⟨?_, F7⟩))
          rw [eq_bl, bl_bs, bl_extract, Int.toNat_natCast, Int.toNat_natCast, Nat.add_sub_cancel_left, htk]
          simp
        rintro b w7 ⟨rfl, F7⟩
        have B7 := B6.fr F7 (fun h => h)
        refine ite_no rfl (B7.ld (c := .int .i64) (x := (t.at' : Int)) (o := 2) rfl (B7.ld (c := .str) (x := bs t.text) (o := 1) rfl ?_))
        have ew : IntKind.wrap .i64 ((t.at' : Int) + ((bs t.text).size : Int)) = ((t.at' + t.text.length : Nat) : Int) := by rw [wrap_ok (by omega) (by omega)]; omega
        rw [ew]
        exact next hnx ((F2.tr F26).tr F7)
    intro w2 F2
    refine join1_ok (c := .bool) (fun (b : Bool) w' => b = true ∧ Fr noB w w') (fun k hk => ?_) (fun b w' h => done_b h)
    refine ite_yes (decide_eq_true (by omega)) ?_
    have hz : l[l'.length]? = some ⟨0, [], (bl s).length⟩ := by rw [hl']; simp
    obtain ⟨g, o, ha, c0, c1, c2⟩ := (hR.fr F2).2 l'.length _ (utok_at hz)
    have ew : IntKind.wrap .i64 ((l1.n : Int) - 1) = ((l'.length : Nat) : Int) := by rw [wrap_ok (by omega) (by omega)]; omega
    rw [ew, ha]
    refine idxB_ok (n := l1.n) (i := l'.length) (by omega) ?_
    simp only [Addr.add_lit]
    refine ld_ok (c := .int .i64) c2 (ite_yes ?_ (callB_ok (awake_ok (hg.fr (F1.tr F2))) fun w3 F3 => hk _ _ ⟨rfl, (F1.tr F2).tr F3⟩))
    rw [beq_iff_eq]
    show (((bl s).length : Nat) : Int) = _
    rw [hsl]
end Go.Proofs.YthnfcbjfmghomaaGreatDoor
