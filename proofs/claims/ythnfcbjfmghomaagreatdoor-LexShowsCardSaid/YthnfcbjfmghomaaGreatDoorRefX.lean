/- The document's versions: Show, Parse. No condition. -/
import Derived.Test.YthnfcbjfmghomaaGreatDoorRefW
namespace Go.Proofs.YthnfcbjfmghomaaGreatDoor
open Go.Lift Go.Lex
section
variable {w : World}
theorem dot_bs : ByteArray.mk #[46] = bs [46] := rfl
theorem dash_bs : ByteArray.mk #[45] = bs [45] := rfl
theorem rShow_ok (a b c : Nat) (pre : ByteArray) (hp : pre.size ≤ 60) : Calls Tryz.prog 80 #[.agg #[.int .i64 (a : Int), .int .i64 (b : Int), .int .i64 (c : Int), .string pre]] w fun e w' =>
    (if checkV [a, b, c] (bl pre) then e = .returned (.tuple #[.string (bs (shownV [a, b, c] (bl pre))), .int .i64 0]) else e = .returned (.tuple #[.string ⟨#[]⟩, .int .i64 40])) ∧ Fr noB w w' := by
  have hpl := bl_length pre
  apply c80
  unfold t80
  refine new_ok fun w1 m4 hm4 hs1 B1 F1 => ?_
  change Blk w1 m4 _ (verCells a b c pre) at B1
  refine B1.ld (c := .int .i64) (x := (a : Int)) (o := 0) rfl (B1.ld (c := .int .i64) (x := (b : Int)) (o := 1) rfl (B1.ld (c := .int .i64) (x := (c : Int)) (o := 2) rfl (B1.ld (c := .str) (x := pre) (o := 3) rfl ?_)))
  refine callI_ok (rCheck_ok a b c pre hp) fun w2 F2 => ?_
  cases hck : checkV [a, b, c] (bl pre) with
  | false => exact ite_yes rfl ⟨by rw [if_neg (by decide)], F1.tr F2⟩
  | true =>
    have hbnd : a ≤ 999999 ∧ b ≤ 999999 ∧ c ≤ 999999 := by
      unfold checkV at hck
      rw [Bool.and_eq_true] at hck
      have := of_decide_eq_true hck.1
      exact ⟨this.1, this.2.1, this.2.2.1⟩
    have da := dec_len 5 a (by omega)
    have db := dec_len 5 b (by omega)
    have dc := dec_len 5 c (by omega)
    refine ite_no rfl (drew_ok fun w3 F3 z3 => ?_)
    have B3 := B1.fr (F2.tr F3) (fun h => h)
    refine B3.ld (c := .int .i64) (x := (a : Int)) (o := 0) rfl (B3.ld (c := .int .i64) (x := (b : Int)) (o := 1) rfl (B3.ld (c := .int .i64) (x := (c : Int)) (o := 2) rfl ?_))
    refine callS_ok (rDigits_ok a (by omega)) fun w4 F4 => ?_
    have B4 := B3.fr F4 (fun h => h)
    refine keep_cons (B4.held1 (o := 2) rfl) (keep_cons (B4.held1 (o := 1) rfl) (keep_nil ?_))
    rw [dot_bs]
    refine cat_ok (by rw [bs_size, bs_size]; simp only [List.length_singleton]; omega) ?_
    rw [bs_append]
    refine callS_ok (rDigits_ok b (by omega)) fun w5 F5 => ?_
    have B5 := B4.fr F5 (fun h => h)
    refine keep_cons (B5.held1 (o := 2) rfl) (keep_nil (cat_ok (by rw [bs_size, bs_size]; simp only [List.length_append, List.length_singleton]; omega) ?_))
    rw [bs_append]
    refine cat_ok (by rw [bs_size, bs_size]; simp only [List.length_append, List.length_singleton]; omega) ?_
    rw [bs_append]
    refine callS_ok (rDigits_ok c (by omega)) fun w6 F6 => ?_
    have B6 := B5.fr F6 (fun h => h)
    refine keep_cons (B6.held1 (o := 0) rfl) (keep_nil (cat_ok (by rw [bs_size, bs_size]; simp only [List.length_append, List.length_singleton]; omega) ?_))
    rw [bs_append]
    refine B6.ld (c := .str) (x := pre) (o := 3) rfl ?_
    rw [eq_bl, bl_empty]
    have F16 := ((((F1.tr F2).tr F3).tr F4).tr F5).tr F6
    refine join1_ok (c := .str) (fun (s : ByteArray) w' => s = bs (shownV [a, b, c] (bl pre)) ∧ w' = w6) (fun kj hkj => ?_) (fun s w' ⟨h1, h2⟩ => ⟨by rw [if_pos rfl, h1], by rw [h2]; exact F16⟩)
    rcases bl_cases pre with hb | ⟨x, r, hb⟩
    · refine ite_no (by rw [hb]; rfl) (hkj _ _ ⟨?_, rfl⟩)
      rw [hb]
      simp [shownV, tailV]
    · refine ite_yes (by rw [hb]; rfl) ?_
      rw [dash_bs]
      refine cat_ok (by rw [bs_size, bs_size]; simp only [List.length_append, List.length_singleton]; omega) ?_
      rw [bs_append]
      refine B6.ld (c := .str) (x := pre) (o := 3) rfl (cat_ok (by rw [bs_size]; simp only [List.length_append, List.length_singleton]; omega) (hkj _ _ ⟨?_, rfl⟩))
      conv => lhs; rw [← bs_bl pre, bs_append]
      have hne : bl pre ≠ [] := by rw [hb]; simp
      simp [shownV, tailV, hne]
/-- a version handed back -/
theorem ver_ret {R : Ending → World → Prop} {m : Nat} {v0 v1 v2 v3 : Value} {a b c e : Int} {t : ByteArray} (B : Blk w m 67 [v0, v1, v2, v3])
    (h : ∀ w', Fr (oneB m) w w' → R (.returned (.tuple #[.agg #[.int .i64 a, .int .i64 b, .int .i64 c, .string t], .int .i64 e])) w') :
    stG ⟨m, 0, none⟩ (.int .i64 a) (stG ⟨m, 1, none⟩ (.int .i64 b) (stG ⟨m, 2, none⟩ (.int .i64 c) (stG ⟨m, 3, none⟩ (.string t)
      (ldG (.int .i64) ⟨m, 0, none⟩ (fun (n21 : Int) => ldG (.int .i64) ⟨m, 1, none⟩ (fun (n22 : Int) => ldG (.int .i64) ⟨m, 2, none⟩ (fun (n23 : Int) => ldG .str ⟨m, 3, none⟩
        (fun (s24 : ByteArray) => retG (.tuple #[.agg #[.int .i64 n21, .int .i64 n22, .int .i64 n23, .string s24], .int .i64 e]))))))))) R w := by
  refine B.st (o := 0) rfl (by simp) fun w1 B1 F1 => B1.st (o := 1) rfl (by simp) fun w2 B2 F2 => B2.st (o := 2) rfl (by simp) fun w3 B3 F3 => B3.st (o := 3) rfl (by simp) fun w4 B4 F4 => ?_
  refine B4.ld (c := .int .i64) (x := a) (o := 0) rfl (B4.ld (c := .int .i64) (x := b) (o := 1) rfl (B4.ld (c := .int .i64) (x := c) (o := 2) rfl (B4.ld (c := .str) (x := t) (o := 3) rfl ?_)))
  exact h _ (((F1.sq F2).sq F3).sq F4)
def VerP (w : World) (ok : Bool) : Ending → World → Prop := fun e w' => ∃ (a b c : Int) (t : ByteArray), e = .returned (.tuple #[.agg #[.int .i64 a, .int .i64 b, .int .i64 c, .string t], .int .i64 (if ok then 0 else 40)]) ∧ Fr noB w w'
theorem coreV_cons {c : UInt8} {r : B} : coreV (c :: r) = if c = 45 then [] else c :: coreV r := by
  unfold coreV
  rw [List.takeWhile_cons]
  by_cases h : c = 45
  · subst h; rfl
  · rw [if_pos (by simpa using h), if_neg h]
set_option maxHeartbeats 4000000 in
theorem rParse_ok (s : ByteArray) (hs47 : s.size < 4611686018427387904) : Calls Tryz.prog 54 #[.string s] w (VerP w (verOk (bl s))) := by
  have hsl := bl_length s
  rw [← refVer_eq]
  apply c54
  unfold t54
  refine new_ok fun w1 m1 hm1 hs1 B1 F1 => ?_
  -- the way out with an error
  have bad : ∀ {w' : World} {v0 v1 v2 v3 : Value}, refVer (bl s) = false → Blk w' m1 67 [v0, v1, v2, v3] → Fr noB w1 w' → stG ⟨m1, 0, none⟩ (.int .i64 0) (stG ⟨m1, 1, none⟩ (.int .i64 0) (stG ⟨m1, 2, none⟩ (.int .i64 0) (stG ⟨m1, 3, none⟩ (.string (ByteArray.mk #[]))
      (ldG (.int .i64) ⟨m1, 0, none⟩ (fun (n21 : Int) => ldG (.int .i64) ⟨m1, 1, none⟩ (fun (n22 : Int) => ldG (.int .i64) ⟨m1, 2, none⟩ (fun (n23 : Int) => ldG .str ⟨m1, 3, none⟩
        (fun (s24 : ByteArray) => retG (.tuple #[.agg #[.int .i64 n21, .int .i64 n22, .int .i64 n23, .string s24], .int .i64 40]))))))))) (VerP w (refVer (bl s))) w' := fun h B F => ver_ret B fun w'' F' => ⟨0, 0, 0, _, by rw [h]; rfl, (F1.tr F).then F' fun y hy h => by unfold oneB at h; omega⟩
  refine ite_ok (fun hbig => ?_) fun hsm => ?_
  · have hbig : (s.size : Int) > 60 := of_decide_eq_true hbig
    refine bad ?_ B1 (Fr.refl _ _)
    unfold refVer
    rw [decide_eq_false (by omega), Bool.false_and]
  have hsm : ¬ (s.size : Int) > 60 := of_decide_eq_false hsm
  have h60 : s.size ≤ 60 := by omega
  have hrv : refVer (bl s) = match refCore (coreV (bl s)) 0 [0, 0, 0] with
      | none => false
      | some ns => checkV ns (preV (bl s)) && (shownV ns (preV (bl s)) == bl s) := by
    unfold refVer
    rw [decide_eq_true (by omega), Bool.true_and]
    cases refCore (coreV (bl s)) 0 [0, 0, 0] <;> rfl
  refine new_ok fun w2 m6 hm6 hs2 B6 F2 => ?_
  have B1' := B1.fr F2 (fun h => h)
  refine join1_ok (c := .int .i64) (fun (n : Int) w' => ∃ ns : List Nat, n = (((coreV (bl s)).length : Nat) : Int) ∧ refCore (coreV (bl s)) 0 [0, 0, 0] = some ns ∧ ns.length = 3 ∧ Blk w' m6 3 (ns.map fun (x : Nat) => Value.int .i64 (x : Int)) ∧ Fr (oneB m6) w2 w') (fun k7 hk7 => ?_) ?_
  · refine loop_ok (vs := [.one (.int .i64), .one (.int .i64)]) (fun xs w' => ∃ (k i : Nat) (ns : List Nat), (show Int from xs.1.1) = (k : Int) ∧ (show Int from xs.2.1.1) = (i : Int) ∧ k ≤ 2 ∧ i ≤ s.size ∧ ns.length = 3 ∧ (∀ x ∈ ns, x ≤ 9999999) ∧ refCore (coreV (bl s)) 0 [0, 0, 0] = refCore (coreV ((bl s).drop i)) k ns ∧
        (coreV (bl s)).length = i + (coreV ((bl s).drop i)).length ∧ Blk w' m6 3 (ns.map fun (x : Nat) => Value.int .i64 (x : Int)) ∧ Fr (oneB m6) w2 w')
      (fun xs => s.size - (show Int from xs.2.1.1).toNat) ?_ (xs := (((0 : Int), ()), (((0 : Int), ()), ()))) ⟨0, 0, [0, 0, 0], rfl, rfl, by omega, Nat.zero_le _, rfl, by simp, rfl, by simp, B6, Fr.refl _ _⟩
    rintro rec ⟨⟨k', ⟨⟩⟩, ⟨⟨i', ⟨⟩⟩, ⟨⟩⟩⟩ w3 ⟨k, i, ns, hk', hi', hk2, his, hn3, hnb, hcore, hlen, Bn, F3⟩ hrec
    change Int at k'
    change Int at i'
    change k' = _ at hk'
    change i' = _ at hi'
    subst hk' hi'
    have stop : coreV ((bl s).drop i) = [] → k7 (i : Int) _ w3 := fun h => hk7 _ _ ⟨ns, by rw [hlen, h]; rfl, by rw [hcore, h]; rfl, hn3, Bn, F3⟩
    cases hdr : (bl s).drop i with
    | nil =>
      have hge : s.size ≤ i := by have := List.drop_eq_nil_iff.1 hdr; omega
      rw [hdr] at stop
      refine join1_ok (c := .bool) (fun (b : Bool) w' => b = false ∧ w' = w3) (fun kj hkj => ite_no (decide_eq_false (by omega)) (hkj _ _ ⟨rfl, rfl⟩)) ?_
      rintro b w4 ⟨rfl, hw⟩
      replace hw := hw.symm
      subst hw
      exact ite_no rfl (stop rfl)
    | cons c r =>
      obtain ⟨_, hdr1, hlt⟩ := drop_cons_getD hdr
      rw [hsl] at hlt
      have hc : (bl s)[i]? = some c := by
        have := congrArg (fun l => l[0]?) hdr
        simpa using this
      have hcl := c.toNat_lt
      rw [hdr] at hcore hlen stop
      refine join1_ok (c := .bool) (fun (b : Bool) w' => b = (c != 45) ∧ w' = w3) (fun kj hkj => ite_yes (decide_eq_true (by omega)) (chrC_ok hc (hkj _ _ ⟨by rw [bne, bne, u8_lit c 45 (z := 45) rfl], rfl⟩))) ?_
      rintro b w4 ⟨rfl, hw⟩
      replace hw := hw.symm
      subst hw
      by_cases h45 : c = 45
      · exact ite_no (by rw [h45]; rfl) (stop (by rw [coreV_cons, if_pos h45]))
      refine ite_yes (by simpa using h45) ?_
      rw [coreV_cons, if_neg h45] at hcore hlen
      have hunf : refCore (c :: coreV r) k ns = if c = 46 then (if 2 < k + 1 then none else refCore (coreV r) (k + 1) ns) else if digit c then refCore (coreV r) k (ns.set k (sat (ns.getD k 0) c)) else none := by
        conv => lhs; unfold refCore
      rw [hunf] at hcore
      have ewi : IntKind.wrap .i64 ((i : Int) + 1) = ((i + 1 : Nat) : Int) := by rw [wrap_ok (by omega) (by omega)]; omega
      have B1w : Blk w3 m1 67 _ := B1'.fr F3 (fun h => by unfold oneB at h; omega)
      have F13 : Fr noB w1 w3 := F2.then F3 fun y hy h => by unfold oneB at h; omega
      have none_bad : refCore (coreV (bl s)) 0 [0, 0, 0] = none → refVer (bl s) = false := fun h => by rw [hrv, h]
      have next : ∀ {k2 : Nat} {ns2 : List Nat} {w' : World}, k2 ≤ 2 → ns2.length = 3 → (∀ x ∈ ns2, x ≤ 9999999) → refCore (coreV (bl s)) 0 [0, 0, 0] = refCore (coreV r) k2 ns2 → Blk w' m6 3 (ns2.map fun (x : Nat) => Value.int .i64 (x : Int)) → Fr (oneB m6) w2 w' →
          uncV rec (((k2 : Int), ()), ((IntKind.wrap .i64 ((i : Int) + 1), ()), ())) _ w' := fun h1 h2 h3 h4 h5 h6 => by
        rw [ewi]
        refine hrec _ _ ⟨_, i + 1, _, rfl, rfl, h1, by omega, h2, h3, by rw [hdr1]; exact h4, by rw [hdr1, hlen, List.length_cons]; omega, h5, h6⟩ (by show s.size - ((i + 1 : Nat) : Int).toNat < s.size - ((i : Nat) : Int).toNat; simp only [Int.toNat_natCast]; omega)
      refine join_in (vs := [.one (.int .i64), .one (.int .i64)]) (chrC_ok hc ?_)
      rw [u8_lit c 46 (z := 46) rfl]
      by_cases h46 : c = 46
      · rw [if_pos h46] at hcore
        refine join_in (vs := [.one (.int .i64)]) (ite_yes (by simpa using h46) ?_)
        rw [wrap_ok (n := (k : Int) + 1) (by omega) (by omega)]
        refine ite_ok (fun h2 => ?_) fun h2 => ?_
        · have h2 : (k : Int) + 1 > 2 := of_decide_eq_true h2
          rw [if_pos (by omega)] at hcore
          exact bad (none_bad hcore) B1w F13
        · have h2 : ¬ (k : Int) + 1 > 2 := of_decide_eq_false h2
          rw [if_neg (by omega)] at hcore
          refine join1_ok (c := .bool) (fun (b : Bool) w' => b = false ∧ w' = w3) (fun kj hkj => chrC_ok hc (ite_no ?_ (hkj _ _ ⟨rfl, rfl⟩))) ?_
          · rw [bne, u8_lit c 46 (z := 46) rfl, h46]; rfl
          rintro b w4 ⟨rfl, hw⟩
          replace hw := hw.symm
          subst hw
          refine join_in (vs := []) (ite_no rfl ?_)
          rw [show (k : Int) + 1 = ((k + 1 : Nat) : Int) by omega]
          exact next (by omega) hn3 hnb hcore Bn F3
      · rw [if_neg h46] at hcore
        refine join_in (vs := [.one (.int .i64)]) (ite_no (by simpa using h46) ?_)
        refine join1_ok (c := .bool) (fun (b : Bool) w' => b = !digit c ∧ w' = w3) (fun kj hkj => chrC_ok hc (ite_ok (fun h => hkj _ _ ⟨?_, rfl⟩) fun h => chrC_ok hc (hkj _ _ ⟨?_, rfl⟩))) ?_
        · have h : (c.toNat : Int) < 48 := of_decide_eq_true h
          have : digit c = false := decide_eq_false (by omega)
          rw [this]
          rfl
        · have h : ¬ (c.toNat : Int) < 48 := of_decide_eq_false h
          show decide ((c.toNat : Int) > 57) = !decide (48 ≤ c.toNat ∧ c.toNat ≤ 57)
          rw [← decide_not]
          exact decide_eq_decide.2 (by omega)
        rintro b w4 ⟨rfl, hw⟩
        replace hw := hw.symm
        subst hw
        cases hd : digit c with
        | false =>
          rw [hd, if_neg (by decide)] at hcore
          exact ite_yes rfl (bad (none_bad hcore) B1w F13)
        | true =>
          rw [hd, if_pos rfl] at hcore
          have hdd := of_decide_eq_true hd
          refine ite_no rfl (ite_no (decide_eq_false (by omega)) ?_)
          have hkn : k < ns.length := by omega
          obtain ⟨x, hx⟩ : ∃ x, ns[k]? = some x := ⟨_, List.getElem?_eq_getElem hkn⟩
          have hxb := hnb x (List.mem_of_getElem? hx)
          have hgd : ns.getD k 0 = x := by rw [List.getD_eq_getElem?_getD, hx]; rfl
          rw [hgd] at hcore
          have hcell : (ns.map fun (x : Nat) => Value.int .i64 (x : Int))[k]? = some (.int .i64 (x : Int)) := by rw [List.getElem?_map, hx]; rfl
          have ix : ∀ {K : Addr → G} {R : Ending → World → Prop} {w' : World}, K ⟨m6, k, none⟩ R w' → idxG (some ⟨m6, 0, none⟩) 3 (k : Int) 1 K R w' := fun hK => idxB_ok (n := 3) (i := k) (by omega) (by rw [Nat.zero_add, Nat.mul_one]; exact hK)
          refine join1_ok (c := .bool) (fun (b : Bool) w' => b = decide (x ≤ 999999) ∧ w' = w3) (fun kj hkj => chrC_ok hc (ite_yes ?_ (ix (Bn.ld (c := .int .i64) (x := (x : Int)) hcell (hkj _ _ ⟨decide_eq_decide.2 (by omega), rfl⟩))))) ?_
          · rw [bne, u8_lit c 46 (z := 46) rfl]; simpa using h46
          rintro b w4 ⟨rfl, hw⟩
          replace hw := hw.symm
          subst hw
          refine join_in (vs := []) ?_
          by_cases hx6 : x ≤ 999999
          · refine ite_yes (decide_eq_true hx6) (drew_ok fun w5 F5 z5 => ix ?_)
            have Bn5 := Bn.fr F5 (fun h => h)
            refine Bn5.ld (c := .int .i64) (x := (x : Int)) hcell (chrC_ok hc (ix ?_))
            have ew : IntKind.wrap .i64 (IntKind.wrap .i64 (10 * (x : Int)) + IntKind.wrap .i64 (IntKind.wrap .u8 ((c.toNat : Int) - 48))) = ((sat x c : Nat) : Int) := by
              have e : sat x c = 10 * x + (c.toNat - 48) := if_pos hx6
              rw [wrap8_ok (by omega) (by omega), wrap_ok (n := 10 * (x : Int)) (by omega) (by omega), wrap_ok (n := (c.toNat : Int) - 48) (by omega) (by omega), wrap_ok (by omega) (by omega), e]
              omega
            rw [ew]
            refine Bn5.st (o := k) rfl (by simpa using hkn) fun w6 B6' F6 => ?_
            refine next hk2 (by rw [List.length_set]; exact hn3) (fun y hy => ?_) hcore ?_ ((F3.then F5 fun _ _ h => h.elim).sq F6)
            · rcases List.mem_or_eq_of_mem_set hy with hy | rfl
              · exact hnb y hy
              · unfold sat
                rw [if_pos hx6]
                omega
            · rw [List.map_set]
              exact B6'
          · refine ite_no (decide_eq_false hx6) ?_
            have e : sat x c = x := if_neg hx6
            have e2 : ns.set k x = ns := by
              obtain ⟨hh, e⟩ := List.getElem?_eq_some_iff.1 hx
              rw [← e]
              exact List.set_getElem_self hh
            rw [e, e2] at hcore
            exact next hk2 hn3 hnb hcore Bn F3
  rintro n w3 ⟨ns, rfl, hcore, hn3, Bn, F3⟩
  rw [hcore] at hrv
  simp only [] at hrv
  match ns, hn3 with
  | [a, b, c], _ =>
    have hcl : (coreV (bl s)).length ≤ s.size := by rw [← hsl]; exact (List.takeWhile_sublist _).length_le
    refine drew_ok fun w4 F4 z4 => ?_
    have Bn4 := Bn.fr F4 (fun h => h)
    refine idxB_ok (n := 3) (i := 0) (by omega) (Bn4.ld (c := .int .i64) (x := (a : Int)) (o := 0) rfl (idxB_ok (n := 3) (i := 1) (by omega) (Bn4.ld (c := .int .i64) (x := (b : Int)) (o := 1) rfl (idxB_ok (n := 3) (i := 2) (by omega) (Bn4.ld (c := .int .i64) (x := (c : Int)) (o := 2) rfl ?_)))))
    refine new_ok fun w5 m49 hm49 hs5 B49 F5 => ?_
    have Bn5 := Bn4.fr F5 (fun h => h)
    refine keep_cons (Bn5.held1 (o := 2) rfl) (keep_cons (Bn5.held1 (o := 1) rfl) (keep_cons (Bn5.held1 (o := 0) rfl) (keep_nil ?_)))
    refine B49.st (o := 0) rfl (by simp) fun w6 B6' F6 => B6'.st (o := 1) rfl (by simp) fun w7 B7 F7 => B7.st (o := 2) rfl (by simp) fun w8 B8 F8 => B8.st (o := 3) rfl (by simp) fun w9 B9 F9 => ?_
    change Blk w9 m49 _ (verCells a b c ⟨#[]⟩) at B9
    have hs2' := F2.size
    have hs3' := F3.size
    have hs4' := F4.size
    have F59 := ((F6.sq F7).sq F8).sq F9
    refine join0_ok (fun w' => Blk w' m49 67 (verCells a b c (bs (preV (bl s)))) ∧ Fr (oneB m49) w9 w') (fun kj hkj => ?_) ?_
    · refine ite_ok (fun hlt => ?_) fun hge => hkj _ ⟨?_, Fr.refl _ _⟩
      · have hlt : (((coreV (bl s)).length : Nat) : Int) < s.size := of_decide_eq_true hlt
        rw [wrap_ok (by omega) (by omega), show (((coreV (bl s)).length : Nat) : Int) + 1 = (((coreV (bl s)).length + 1 : Nat) : Int) by omega]
        refine subE_ok (by omega) (B9.st (o := 3) rfl (by simp [verCells]) fun w10 B10 F10 => hkj _ ⟨?_, F10⟩)
        have e : preV (bl s) = (bl s).drop ((coreV (bl s)).length + 1) := by
          unfold preV
          rw [List.tail_drop]
        rw [e]
        exact B10
      · have hge : ¬ (((coreV (bl s)).length : Nat) : Int) < s.size := of_decide_eq_false hge
        have e : preV (bl s) = [] := by
          unfold preV
          rw [List.drop_of_length_le (by omega)]
          rfl
        rw [e]
        exact B9
    rintro w10 ⟨B10, F10⟩
    have hpre : (bs (preV (bl s))).size ≤ 60 := by
      rw [bs_size]
      unfold preV
      rw [List.length_tail, List.length_drop]
      omega
    refine B10.ld (c := .int .i64) (x := (a : Int)) (o := 0) rfl (B10.ld (c := .int .i64) (x := (b : Int)) (o := 1) rfl (B10.ld (c := .int .i64) (x := (c : Int)) (o := 2) rfl (B10.ld (c := .str) (x := bs (preV (bl s))) (o := 3) rfl ?_)))
    have SH := rShow_ok (w := w10) a b c (bs (preV (bl s))) hpre
    rw [bl_bs] at SH
    have F110 : ∀ {w' : World}, Fr noB w10 w' → Fr noB w1 w' ∧ Blk w' m1 67 [.int .i64 0, .int .i64 0, .int .i64 0, .string ⟨#[]⟩] := fun {w'} F => by
      have G : Fr (fun b => b = m6 ∨ b = m49) w2 w' := (((((F3.mono fun _ _ h => Or.inl h).then F4 fun _ _ h => h.elim).then F5 fun _ _ h => h.elim).then F59 fun y hy h => Or.inr h).then F10 fun y hy h => Or.inr h).then F fun _ _ h => h.elim
      exact ⟨F2.then G fun y hy h => by omega, B1'.fr G fun h => by omega⟩
    cases hck : checkV [a, b, c] (preV (bl s)) with
    | false =>
      simp only [hck, Bool.false_eq_true, reduceIte] at SH
      refine callSI_ok SH fun w11 F11 => ?_
      refine join1_ok (c := .bool) (fun (x : Bool) w' => x = true ∧ w' = w11) (fun kj hkj => ite_yes rfl (hkj _ _ ⟨rfl, rfl⟩)) ?_
      rintro x w12 ⟨rfl, hw⟩
      replace hw := hw.symm
      subst hw
      refine ite_yes rfl (bad ?_ (F110 F11).2 (F110 F11).1)
      rw [hrv, hck]
      rfl
    | true =>
      simp only [hck, reduceIte] at SH
      rw [hck, Bool.true_and] at hrv
      refine callSI_ok SH fun w11 F11 => ?_
      refine join1_ok (c := .bool) (fun (x : Bool) w' => x = !(shownV [a, b, c] (preV (bl s)) == bl s) ∧ w' = w11) (fun kj hkj => ite_no rfl (hkj _ _ ⟨by rw [eq_bl, bl_bs], rfl⟩)) ?_
      rintro x w12 ⟨rfl, hw⟩
      replace hw := hw.symm
      subst hw
      cases heq : shownV [a, b, c] (preV (bl s)) == bl s with
      | false => exact ite_yes rfl (bad (by rw [hrv, heq]) (F110 F11).2 (F110 F11).1)
      | true =>
        refine ite_no rfl ?_
        have B11 := B10.fr F11 (fun h => h)
        refine B11.ld (c := .int .i64) (x := (a : Int)) (o := 0) rfl (B11.ld (c := .int .i64) (x := (b : Int)) (o := 1) rfl (B11.ld (c := .int .i64) (x := (c : Int)) (o := 2) rfl (B11.ld (c := .str) (x := bs (preV (bl s))) (o := 3) rfl ?_)))
        refine ver_ret (F110 F11).2 fun w13 F13 => ⟨_, _, _, _, by rw [hrv, heq]; rfl, (F1.tr (F110 F11).1).then F13 fun y hy h => by unfold oneB at h; omega⟩
end
end Go.Proofs.YthnfcbjfmghomaaGreatDoor
