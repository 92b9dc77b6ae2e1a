/- LexBack: the walk. No condition. -/
import Derived.Test.YthnfcbjfmghomaaGreatDoorLawA
namespace Go.Proofs.YthnfcbjfmghomaaGreatDoor
open Go.Lift Go.Lex
/-- the tokens of one's own: those that are not the end -/
def ownToks (X : List (Int × ByteArray × Int)) : List (Int × ByteArray × Int) := X.filter fun x => decide (x.1 ≠ 0)
theorem ownToks_le (X : List (Int × ByteArray × Int)) : (ownToks X).length ≤ X.length := List.length_filter_le ..
theorem cells3_len (X : List (Int × ByteArray × Int)) : (X.flatMap cells3).length = X.length * 3 := flat_length cells3 3 (fun _ _ => rfl)
theorem min_texts (a : Nat) : (if (20000 : Int) < (a : Int) then (20000 : Int) else (a : Int)) = ((min a 20000 : Nat) : Int) := by
  split <;> omega
set_option maxHeartbeats 2000000 in
theorem LexBack_ok {w : World} {l0 : Sl} {toks : List (Int × ByteArray × Int)} (hR : RdT w l0 toks) (hn63 : toks.length ≤ 9223372036854775807) (hg : Glob w) : AnsB 6 #[.slice l0.a l0.n l0.c] w true := by
  have hn := hR.1
  have aw : ∀ {w' : World}, Fr noB w w' → AnsB 18 #[] w' true := fun F => awake_ok (hg.fr F)
  obtain ⟨ti, z, hi, hz, e1, e2, e3⟩ := rTok
  apply c6
  unfold t6
  refine join1_ok (c := .slice) (fun (l : Sl) w' => w'.ownsRow w.heap.size 32 3 (.slice l.a l.n l.c) (ownToks toks).length ((ownToks toks).flatMap cells3) ∧ toks.length ≤ 4000 ∧ (∀ x ∈ toks, x.2.1.size ≤ 20000) ∧ Fr noB w w') (fun k1 hk1 => ?_) ?_
  · refine loop_ok (vs := [.one (.int .i64), .one .slice, .one (.int .i64)]) (fun xs w' => ∃ (k N : Nat), (show Int from xs.2.2.1.1) = (k : Int) ∧ (show Int from xs.1.1) = (N : Int) ∧ k ≤ toks.length ∧ N ≤ 20000 ∧ 5 * k ≤ N ∧ (∀ x ∈ toks.take k, x.2.1.size ≤ 20000) ∧
        w'.ownsRow w.heap.size 32 3 (.slice (show Sl from xs.2.1.1).a (show Sl from xs.2.1.1).n (show Sl from xs.2.1.1).c) (ownToks (toks.take k)).length ((ownToks (toks.take k)).flatMap cells3) ∧ Fr noB w w')
      (fun xs => toks.length - (show Int from xs.2.2.1.1).toNat) ?_ (xs := (((0 : Int), ()), (((⟨none, 0, 0⟩ : Sl), ()), (((0 : Int), ()), ())))) ⟨0, 0, rfl, rfl, Nat.zero_le _, Nat.zero_le _, Nat.le_refl _, fun x hx => by simp at hx, ⟨rfl, .inl ⟨rfl, rfl⟩⟩, Fr.refl _ _⟩
    rintro rec ⟨⟨N', ⟨⟩⟩, ⟨⟨l4, ⟨⟩⟩, ⟨⟨n, ⟨⟩⟩, ⟨⟩⟩⟩⟩ w1 ⟨k, N, hk, hN, hkl, hN2, h5k, hsz, hown, F1⟩ hrec
    change Int at N'
    change Sl at l4
    change Int at n
    change n = _ at hk
    change N' = _ at hN
    subst hk hN
    change w1.ownsRow _ _ _ (.slice l4.a l4.n l4.c) _ _ at hown
    refine ite_ok (fun hlt => ?_) fun hge => hk1 _ _ ?_
    rotate_left
    · have hge : ¬ (k : Int) < (l0.n : Int) := of_decide_eq_false hge
      have e : k = toks.length := by omega
      rw [e, List.take_length] at hown hsz
      exact ⟨hown, by omega, hsz, F1⟩
    have hlt : (k : Int) < (l0.n : Int) := of_decide_eq_true hlt
    have hlt : k < toks.length := by omega
    obtain ⟨⟨kd, tx, at'⟩, hx⟩ : ∃ x, toks[k]? = some x := ⟨_, List.getElem?_eq_getElem hlt⟩
    have etk : toks.take (k + 1) = toks.take k ++ [(kd, tx, at')] := by rw [List.take_add_one, hx]; rfl
    have ewk : IntKind.wrap .i64 ((k : Int) + 1) = ((k + 1 : Nat) : Int) := by rw [wrap_ok (by omega) (by omega)]; omega
    obtain ⟨g, o, ha, c0, c1, c2⟩ := (hR.fr F1).2 k _ hx
    refine join_in (vs := [.one (.int .i64), .one .slice]) ?_
    rw [ha]
    have i0 : ∀ {K : Addr → G} {R : Ending → World → Prop} {w' : World}, K ⟨g, o + k * 3, none⟩ R w' → idxG (some ⟨g, o, none⟩) l0.n (k : Int) 3 K R w' := fun hK => idxB_ok (by omega) hK
    refine i0 ?_
    simp only [Addr.add_lit]
    refine ld_ok (c := .str) c1 ?_
    rw [min_texts, wrap_ok (n := ((min tx.size 20000 : Nat) : Int) + 5) (by omega) (by omega), wrap_ok (by omega) (by omega)]
    refine ite_ok (fun hb => callB_ok (aw F1) fun w2 F2 => ⟨rfl, F1.tr F2⟩) fun hb => ?_
    have hb : ¬ (N : Int) + (((min tx.size 20000 : Nat) : Int) + 5) > 20000 := of_decide_eq_false hb
    have hts : tx.size ≤ 20000 := by omega
    have eN : (N : Int) + (((min tx.size 20000 : Nat) : Int) + 5) = ((N + (min tx.size 20000 + 5) : Nat) : Int) := by omega
    have next : ∀ {l : Sl} {w' : World}, w'.ownsRow w.heap.size 32 3 (.slice l.a l.n l.c) (ownToks (toks.take (k + 1))).length ((ownToks (toks.take (k + 1))).flatMap cells3) → Fr noB w w' →
        uncV rec ((((N : Int) + (((min tx.size 20000 : Nat) : Int) + 5), ())), ((l, ()), ((IntKind.wrap .i64 ((k : Int) + 1), ()), ()))) _ w' := fun h1 h2 => by
      rw [ewk, eN]
      refine hrec _ _ ⟨k + 1, _, rfl, rfl, by omega, by omega, by omega, fun x hx => ?_, h1, h2⟩ (by show toks.length - ((k + 1 : Nat) : Int).toNat < toks.length - ((k : Nat) : Int).toNat; simp only [Int.toNat_natCast]; omega)
      rw [etk] at hx
      rcases List.mem_append.1 hx with hx | hx
      · exact hsz x hx
      · rw [List.mem_singleton.1 hx]
        exact hts
    refine i0 ?_
    simp only [Addr.add_lit, Nat.add_zero]
    refine ld_ok (c := .int .i64) c0 (join_in (vs := [.one .slice]) ?_)
    refine ite_ok (fun h0 => ?_) fun h0 => ?_
    · have h0 : kd ≠ 0 := by simpa using h0
      refine i0 ?_
      simp only [Addr.add_lit, Nat.add_zero]
      refine ld_ok (c := .int .i64) c0 (ld_ok (c := .str) c1 (ld_ok (c := .int .i64) c2 (new_ok fun w2 m17 hm17 hs2 B2 F2 => ?_)))
      have hown2 := own_fr0 hown F2
      have hol := ownToks_le (toks.take k)
      have htl : (toks.take k).length ≤ k := by rw [List.length_take]; omega
      refine appendC_ok uToks hi hz e1 e2 (by rw [e3]; rfl) (by omega) (s := l4) hown2 (m := 1) (news := cells3 (kd, tx, at')) rfl (B2.held fun j v hj => by rw [Nat.zero_add]; exact hj) (fun u hu => ?_) (by unfold maxLen; omega) (by omega) (by have := (F1.tr F2).size; omega) fun l18 w3 hown3 F3 => ?_
      · simp only [cells3, List.mem_cons, List.not_mem_nil, or_false] at hu
        rcases hu with rfl | rfl | rfl <;> rfl
      refine next ?_ ((F1.tr F2).then F3 fun y hy h => by have := (hown2.lt y h).1; omega)
      have e : ownToks (toks.take (k + 1)) = ownToks (toks.take k) ++ [(kd, tx, at')] := by
        unfold ownToks
        rw [etk, List.filter_append]
        simp [h0]
      rw [e, List.length_append, List.flatMap_append]
      simpa using hown3
    · have h0 : kd = 0 := by simpa using h0
      refine next ?_ F1
      have e : ownToks (toks.take (k + 1)) = ownToks (toks.take k) := by
        unfold ownToks
        rw [etk, List.filter_append]
        simp [h0]
      rw [e]
      exact hown
  rintro l22 w1 ⟨hown, h4, h20, F1⟩
  have SH := Show_ok (hR.fr F1) (hg.fr F1) h20 h4
  cases hsh : showF [] (toks.map fun x => (x.1, bl x.2.1)) with
  | none =>
    rw [hsh] at SH
    refine callSI_ok SH fun w2 F2 => ite_yes rfl ?_
    refine join1_ok (c := .bool) (fun (b : Bool) w' => b = true ∧ Fr noB w w') (fun k hk => ?_) (fun b w' h => done_b h)
    refine ite_yes (by rw [eq_bl]; rfl) (ite_yes rfl ?_)
    exact callB_ok (aw (F1.tr F2)) fun w3 F3 => hk _ _ ⟨rfl, (F1.tr F2).tr F3⟩
  | some outs =>
    rw [hsh] at SH
    refine callSI_ok SH fun w2 F2 => ite_no rfl ?_
    refine scanBox_ok _ (hg.fr (F1.tr F2)) fun l28 m31 w3 ⟨hm3, F3, H3⟩ => ?_
    have F13 := (F1.tr F2).tr F3
    have hjs := bs_size (Lib.join outs [32])
    rw [bl_bs] at H3
    by_cases hjb : 4096 < (Lib.join outs [32]).length
    · rw [scan_big hjb] at H3
      obtain ⟨B31, rfl⟩ := H3
      refine ite_yes (decide_eq_true (by omega)) ?_
      refine join1_ok (c := .bool) (fun (b : Bool) w' => b = true ∧ Fr noB w w') (fun k hk => ?_) (fun b w' h => done_b h)
      refine B31.ld (c := .int .i64) (x := 3) (o := 0) rfl (ite_yes rfl (ite_yes rfl ?_))
      exact callB_ok (aw F13) fun w4 F4 => hk _ _ ⟨rfl, F13.tr F4⟩
    · refine ite_no (decide_eq_false (by omega)) ?_
      obtain ⟨kk, hsk, hkk⟩ := scan_back hsh (by omega)
      rw [hsk] at H3
      obtain ⟨B31, hown28⟩ := H3
      refine join1_ok (c := .bool) (fun (b : Bool) w' => b = true ∧ Fr noB w w') (fun k hk => ?_) (fun b w' h => done_b h)
      refine B31.ld (c := .int .i64) (x := 0) (o := 0) rfl (B31.ld (c := .int .i64) (x := 0) (o := 1) rfl (eqF_ok rfl rfl (ite_yes rfl ?_)))
      refine new_ok fun w4 m40 hm40 hs4 B40 F4 => ?_
      have hown4 := own_fr0 (own_fr0 (own_fr0 hown F2) F3) F4
      have hol := ownToks_le toks
      refine appendC_ok uToks hi hz e1 e2 (by rw [e3]; rfl) (by omega) (s := l22) hown4 (m := 1) (news := cells3 (0, ⟨#[]⟩, 0)) rfl (B40.held fun j v hj => by rw [Nat.zero_add]; exact hj) (fun u hu => ?_) (by unfold maxLen; omega) (by omega) (by have := (F13.tr F4).size; omega) fun l41 w5 hown5 F5 => ?_
      · simp only [cells3, List.mem_cons, List.not_mem_nil, or_false] at hu
        rcases hu with rfl | rfl | rfl <;> rfl
      have F15 : Fr noB w w5 := (F13.tr F4).then F5 fun y hy h => by have := (hown4.lt y h).1; omega
      have R41 : RdT w5 l41 (ownToks toks ++ [(0, ⟨#[]⟩, 0)]) := RdT_ownX (base := w.heap.size) (by rw [List.length_append, List.flatMap_append]; simpa using hown5)
      have R28 := RdT_own (own_fr (own_fr0 hown28 F4) F5 fun b hb h => by
        have h7 := ((own_fr0 hown28 F4).lt b hb).1
        have h8 := (hown.lt b h).2
        have := F2.size
        omega)
      have hk4 := scan_len hsk
      refine call_ok (Same_ok R28 R41 false (by rw [List.length_map]; omega)) ?_
      rintro _ w6 ⟨r, rfl, hr, F6⟩
      have hr1 : r = true := hr.2 (SameP_of (by
        have h9 := congrArg (List.map fun x : Int × List UInt8 => (x.1, bs x.2)) hkk
        rw [List.map_map, List.map_append, List.filter_map, List.map_map] at h9
        rw [List.map_map, List.map_append]
        refine Eq.trans ?_ (h9.trans ?_)
        · rfl
        · unfold ownToks
          congr 1))
      subst hr1
      exact ⟨((true, ()), ()), rfl, ite_yes (y := k false) rfl (callB_ok (aw (F15.tr F6)) fun w7 F7 => hk _ _ ⟨rfl, (F15.tr F6).tr F7⟩)⟩
end Go.Proofs.YthnfcbjfmghomaaGreatDoor
