/- LexShows: the walk. No condition. -/
import Derived.Test.YthnfcbjfmghomaaGreatDoorLexO
import Derived.Test.YthnfcbjfmghomaaGreatDoorRefT
namespace Go.Proofs.YthnfcbjfmghomaaGreatDoor
open Go.Lift Go.Lex
theorem min20_texts (a : Nat) : (if (20000 : Int) < (a : Int) then (20000 : Int) else (a : Int)) = ((min a 20000 : Nat) : Int) := by
  split <;> omega
set_option maxHeartbeats 1000000 in
theorem LexShows_ok {w : World} {l0 : Sl} {toks : List (Int × ByteArray × Int)} (hR : RdT w l0 toks) (hn63 : toks.length ≤ 9223372036854775807) (hg : Glob w) : AnsB 5 #[.slice l0.a l0.n l0.c] w true := by
  have hn := hR.1
  have aw : ∀ {w' : World}, Fr noB w w' → AnsB 18 #[] w' true := fun F => awake_ok (hg.fr F)
  apply c5
  unfold t5
  refine join0_ok (fun w' => toks.length ≤ 4000 ∧ (∀ x ∈ toks, x.2.1.size ≤ 20000) ∧ Fr noB w w') (fun k1 hk1 => ?_) ?_
  · refine loop_ok (vs := [.one (.int .i64), .one (.int .i64)]) (fun xs w' => ∃ (k N : Nat), (show Int from xs.2.1.1) = (k : Int) ∧ (show Int from xs.1.1) = (N : Int) ∧ k ≤ toks.length ∧ N ≤ 20000 ∧ 5 * k ≤ N ∧ (∀ x ∈ toks.take k, x.2.1.size ≤ 20000) ∧ Fr noB w w')
      (fun xs => toks.length - (show Int from xs.2.1.1).toNat) ?_ (xs := (((0 : Int), ()), (((0 : Int), ()), ()))) ⟨0, 0, rfl, rfl, Nat.zero_le _, Nat.zero_le _, Nat.le_refl _, fun x hx => by simp at hx, Fr.refl _ _⟩
    rintro rec ⟨⟨N', ⟨⟩⟩, ⟨⟨n, ⟨⟩⟩, ⟨⟩⟩⟩ w1 ⟨k, N, hk, hN, hkl, hN2, h5k, hsz, F1⟩ hrec
    change Int at N'
    change Int at n
    change n = _ at hk
    change N' = _ at hN
    subst hk hN
    refine ite_ok (fun hlt => ?_) fun hge => hk1 _ ?_
    rotate_left
    · have hge : ¬ (k : Int) < (l0.n : Int) := of_decide_eq_false hge
      have e : k = toks.length := by omega
      rw [e, List.take_length] at hsz
      exact ⟨by omega, hsz, F1⟩
    have hlt : (k : Int) < (l0.n : Int) := of_decide_eq_true hlt
    have hlt : k < toks.length := by omega
    obtain ⟨⟨kd, tx, at'⟩, hx⟩ : ∃ x, toks[k]? = some x := ⟨_, List.getElem?_eq_getElem hlt⟩
    have etk : toks.take (k + 1) = toks.take k ++ [(kd, tx, at')] := by rw [List.take_add_one, hx]; rfl
    have ewk : IntKind.wrap .i64 ((k : Int) + 1) = ((k + 1 : Nat) : Int) := by rw [wrap_ok (by omega) (by omega)]; omega
    obtain ⟨g, o, ha, c0, c1, c2⟩ := (hR.fr F1).2 k _ hx
    refine join_in (vs := [.one (.int .i64)]) ?_
    rw [ha]
    refine idxB_ok (n := l0.n) (i := k) (by omega) ?_
    simp only [Addr.add_lit]
    refine ld_ok (c := .str) c1 ?_
    rw [min20_texts, wrap_ok (n := ((min tx.size 20000 : Nat) : Int) + 5) (by omega) (by omega), wrap_ok (by omega) (by omega)]
    refine ite_ok (fun hb => callB_ok (aw F1) fun w2 F2 => ⟨rfl, F1.tr F2⟩) fun hb => ?_
    have hb : ¬ (N : Int) + (((min tx.size 20000 : Nat) : Int) + 5) > 20000 := of_decide_eq_false hb
    have hts : tx.size ≤ 20000 := by omega
    have eN : (N : Int) + (((min tx.size 20000 : Nat) : Int) + 5) = ((N + (min tx.size 20000 + 5) : Nat) : Int) := by omega
    rw [ewk, eN]
    refine hrec ((((N + (min tx.size 20000 + 5) : Nat) : Int), ()), ((((k + 1 : Nat) : Int), ()), ())) _ ⟨k + 1, _, rfl, rfl, by omega, by omega, by omega, fun x hx => ?_, F1⟩ (by show toks.length - ((k + 1 : Nat) : Int).toNat < toks.length - ((k : Nat) : Int).toNat; simp only [Int.toNat_natCast]; omega)
    rw [etk] at hx
    rcases List.mem_append.1 hx with hx | hx
    · exact hsz x hx
    · rw [List.mem_singleton.1 hx]
      exact hts
  rintro w1 ⟨h4, h20, F1⟩
  have S1 := Show_ok (hR.fr F1) (hg.fr F1) h20 h4
  have S2 := fun {w' : World} (F : Fr noB w w') => rShow6_ok (hR.fr F) h20 h4
  unfold ShowP at S2
  cases hsh : showF [] (toks.map fun x => (x.1, bl x.2.1)) with
  | none =>
    rw [hsh] at S1 S2
    refine callSI_ok S1 fun w2 F2 => callSI_ok (S2 (F1.tr F2)) fun w3 F3 => ?_
    refine join1_ok (c := .bool) (fun (b : Bool) w' => b = true ∧ Fr noB w w') (fun k hk => ?_) (fun b w' h => done_b h)
    refine ite_yes (by rw [eq_bl]; rfl) (ite_yes rfl ?_)
    exact callB_ok (aw ((F1.tr F2).tr F3)) fun w4 F4 => hk _ _ ⟨rfl, ((F1.tr F2).tr F3).tr F4⟩
  | some outs =>
    rw [hsh] at S1 S2
    refine callSI_ok S1 fun w2 F2 => callSI_ok (S2 (F1.tr F2)) fun w3 F3 => ?_
    refine join1_ok (c := .bool) (fun (b : Bool) w' => b = true ∧ Fr noB w w') (fun k hk => ?_) (fun b w' h => done_b h)
    refine ite_yes (by rw [eq_bl]; exact beq_self_eq_true _) (ite_yes rfl ?_)
    exact callB_ok (aw ((F1.tr F2).tr F3)) fun w4 F4 => hk _ _ ⟨rfl, ((F1.tr F2).tr F3).tr F4⟩
end Go.Proofs.YthnfcbjfmghomaaGreatDoor
