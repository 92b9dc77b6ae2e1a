/- Tokens written. No condition. -/
import Derived.Test.YthnfcbjfmghomaaGreatDoorLexL
namespace Go.Lift
/-- a slice of tokens that reads so -/
def RdT (w : World) (s : Sl) (l : List (Int × ByteArray × Int)) : Prop := s.n = l.length ∧ ∀ k x, l[k]? = some x → ∃ g o, s.a = some ⟨g, o, none⟩ ∧
  w.cell? ⟨g, o + k * 3, none⟩ = some (.int .i64 x.1) ∧ w.cell? ⟨g, o + k * 3 + 1, none⟩ = some (.string x.2.1) ∧ w.cell? ⟨g, o + k * 3 + 2, none⟩ = some (.int .i64 x.2.2)
theorem RdT.fr {w w' : World} {s : Sl} {l : List (Int × ByteArray × Int)} (h : RdT w s l) (F : Fr noB w w') : RdT w' s l := ⟨h.1, fun k x hx => by
  obtain ⟨g, o, h1, h2, h3, h4⟩ := h.2 k x hx
  exact ⟨g, o, h1, F.cell h2 (fun h => h), F.cell h3 (fun h => h), F.cell h4 (fun h => h)⟩⟩
end Go.Lift
namespace Go.Proofs.YthnfcbjfmghomaaGreatDoor
open Go.Lift Go.Lex
section
variable {w : World}
set_option maxHeartbeats 2000000 in
theorem Show_ok {l0 : Sl} {toks : List (Int × ByteArray × Int)} (hR : RdT w l0 toks) (hg : Glob w) (h20 : ∀ x ∈ toks, x.2.1.size ≤ 20000) (h4 : toks.length ≤ 4000) :
    Calls Tryz.prog 22 #[.slice l0.a l0.n l0.c] w fun e w' => (match showF [] (toks.map fun x => (x.1, bl x.2.1)) with
      | some outs => e = .returned (.tuple #[.string (bs (Lib.join outs [32])), .int .i64 0])
      | none => e = .returned (.tuple #[.string ⟨#[]⟩, .int .i64 60])) ∧ Fr noB w w' := by
  have hn := hR.1
  apply c22
  unfold t22
  have bad : ∀ {w' : World}, showF [] (toks.map fun x => (x.1, bl x.2.1)) = none → Fr noB w w' → (match showF [] (toks.map fun x => (x.1, bl x.2.1)) with
      | some outs => (Ending.returned (.tuple #[.string ⟨#[]⟩, .int .i64 60])) = .returned (.tuple #[.string (bs (Lib.join outs [32])), .int .i64 0])
      | none => (Ending.returned (.tuple #[.string ⟨#[]⟩, .int .i64 60])) = .returned (.tuple #[.string ⟨#[]⟩, .int .i64 60])) ∧ Fr noB w w' := fun h F => by rw [h]; exact ⟨rfl, F⟩
  refine join1_ok (c := .slice) (fun (l : Sl) w' => ∃ outs, showF [] (toks.map fun x => (x.1, bl x.2.1)) = some outs ∧ w'.ownsRow w.heap.size 9 1 (.slice l.a l.n l.c) outs.length (outs.map fun o => Value.string (bs o)) ∧ outs.length ≤ 4000 ∧ (∀ o ∈ outs, o.length ≤ 40002) ∧ Fr noB w w') (fun kend hkend => ?_) ?_
  · refine loop_ok (vs := [.one .slice, .one (.int .i64)]) (fun xs w' => ∃ (k : Nat) (outs : List (List UInt8)), k ≤ toks.length ∧ (show Int from xs.2.1.1) = (k : Int) ∧ w'.ownsRow w.heap.size 9 1 (.slice (show Sl from xs.1.1).a (show Sl from xs.1.1).n (show Sl from xs.1.1).c) outs.length (outs.map fun o => Value.string (bs o)) ∧
        outs.length ≤ k ∧ (∀ o ∈ outs, o.length ≤ 40002) ∧ showF [] (toks.map fun x => (x.1, bl x.2.1)) = showF outs ((toks.drop k).map fun x => (x.1, bl x.2.1)) ∧ Fr noB w w')
      (fun xs => toks.length - (show Int from xs.2.1.1).toNat) ?_ (xs := (((⟨none, 0, 0⟩ : Sl), ()), (((0 : Int), ()), ()))) ⟨0, [], by omega, rfl, ⟨rfl, .inl ⟨rfl, rfl⟩⟩, Nat.le_refl _, by simp, rfl, Fr.refl _ _⟩
    rintro rec ⟨⟨l3, ⟨⟩⟩, ⟨⟨n, ⟨⟩⟩, ⟨⟩⟩⟩ w1 ⟨k, outs, hk, hi, hown, hol, ho4, hq, F1⟩ hrec
    change Sl at l3
    change Int at n
    change n = _ at hi
    subst hi
    change w1.ownsRow _ _ _ (.slice l3.a l3.n l3.c) _ _ at hown
    refine ite_ok (fun hlt => ?_) fun hge => hkend _ _ ⟨outs, ?_, hown, by omega, ho4, F1⟩
    rotate_left
    · have hge : ¬ (k : Int) < (l0.n : Int) := of_decide_eq_false hge
      rw [hq, List.drop_of_length_le (by omega)]
      rfl
    have hlt : (k : Int) < (l0.n : Int) := of_decide_eq_true hlt
    have hlt : k < toks.length := by omega
    obtain ⟨⟨kd, tx, at'⟩, hx⟩ : ∃ x, toks[k]? = some x := ⟨_, List.getElem?_eq_getElem hlt⟩
    have hdrop : toks.drop k = (kd, tx, at') :: toks.drop (k + 1) := by
      rw [List.drop_eq_getElem_cons hlt]
      congr 1
      rw [List.getElem?_eq_getElem hlt] at hx
      exact Option.some.inj hx
    rw [hdrop, List.map_cons] at hq
    have htx : tx.size ≤ 20000 := h20 _ (List.mem_of_getElem? hx)
    obtain ⟨g, o, ha, c0, c1, c2⟩ := (hR.fr F1).2 k _ hx
    have htl := bl_length tx
    have ewk : IntKind.wrap .i64 ((k : Int) + 1) = ((k + 1 : Nat) : Int) := by rw [wrap_ok (by omega) (by omega)]; omega
    -- one round more
    have next : ∀ {l : Sl} {outs' : List (List UInt8)} {w' : World}, w'.ownsRow w.heap.size 9 1 (.slice l.a l.n l.c) outs'.length (outs'.map fun o => Value.string (bs o)) → outs'.length ≤ k + 1 → (∀ o ∈ outs', o.length ≤ 40002) →
        showF [] (toks.map fun x => (x.1, bl x.2.1)) = showF outs' ((toks.drop (k + 1)).map fun x => (x.1, bl x.2.1)) → Fr noB w w' → uncV rec ((l, ()), ((IntKind.wrap .i64 ((k : Int) + 1), ()), ())) _ w' := fun h1 h2 h3 h4' h5 => by
      rw [ewk]
      exact hrec _ _ ⟨k + 1, _, by omega, rfl, h1, h2, h3, h4', h5⟩ (by show toks.length - ((k + 1 : Nat) : Int).toNat < toks.length - ((k : Nat) : Int).toNat; simp only [Int.toNat_natCast]; omega)
    unfold joinG
    rw [ha]
    refine idx_ok (n := l0.n) (i := (k : Int)) (by omega) (by omega) ?_
    rw [Int.toNat_natCast]
    show ldG _ (Addr.add (Addr.add ⟨g, o, none⟩ (k * 3)) 0) _ _ _
    simp only [Addr.add_lit, Nat.add_zero]
    refine ld_ok (c := .int .i64) c0 (ld_ok (c := .str) c1 (ld_ok (c := .int .i64) c2 (new_ok fun w2 m10 hm10 hs2 B2 F2 => ?_)))
    refine B2.st (o := 0) rfl (by simp) fun w3 B3 F3 => B3.st (o := 1) rfl (by simp) fun w4 B4 F4 => B4.st (o := 2) rfl (by simp) fun w5 B5 F5 => ?_
    have F15 : Fr noB w1 w5 := F2.then ((F3.sq F4).sq F5) fun y hy h => by unfold oneB at h; omega
    have hown5 := own_fr0 hown F15
    have hz : (bl tx == []) = decide (bl tx = []) := by cases bl tx <;> rfl
    refine B5.ld (c := .int .i64) (x := kd) (o := 0) rfl ?_
    -- is the token the end?
    by_cases hskip : kd = 0 ∧ bl tx = []
    · refine ite_yes (by rw [hskip.1]; rfl) (B5.ld (c := .str) (x := tx) (o := 1) rfl (ite_yes ?_ (next hown5 (by omega) ho4 ?_ (F1.tr F15))))
      · rw [eq_bl, hskip.2]; rfl
      · rw [hq]
        conv => lhs; unfold showF
        rw [if_pos hskip]
    have hq2 : showF [] (toks.map fun x => (x.1, bl x.2.1)) = match show1 kd (bl tx) with
        | some s => showF (outs ++ [s]) ((toks.drop (k + 1)).map fun x => (x.1, bl x.2.1))
        | none => none := by
      rw [hq]
      conv => lhs; unfold showF
      rw [if_neg hskip]
      cases show1 kd (bl tx) <;> rfl
    have hbad : show1 kd (bl tx) = none → showF [] (toks.map fun x => (x.1, bl x.2.1)) = none := fun h => by rw [hq2, h]
    have hpass : ∀ {K : Bool → G} {R : Ending → World → Prop}, K false R w5 → iteG (kd == 0) (ldG CT.str ⟨m10, 1, none⟩ fun s13 => K (ByteArray.toList s13 == ByteArray.toList (ByteArray.mk #[]))) (K false) R w5 := by
      intro K R hK
      by_cases h0 : kd = 0
      · refine ite_yes (by rw [h0]; rfl) (B5.ld (c := .str) (x := tx) (o := 1) rfl ?_)
        have : (ByteArray.toList tx == ByteArray.toList (ByteArray.mk #[])) = false := by
          rw [eq_bl, bl_empty, hz]
          exact decide_eq_false fun h => hskip ⟨h0, h⟩
        rw [this]
        exact hK
      · exact ite_no (beq_eq_false_iff_ne.2 h0) hK
    refine hpass (K := fun b => iteG b _ _) (ite_no rfl ?_)
    refine B5.ld (c := .int .i64) (x := kd) (o := 0) rfl (B5.ld (c := .str) (x := tx) (o := 1) rfl (B5.ld (c := .int .i64) (x := at') (o := 2) rfl ?_))
    refine callS_ok (shown_ok kd tx at' (by omega)) fun w6 F6 => ?_
    have hSl := written_len kd (bl tx)
    generalize hS : Lex.written kd (bl tx) = S at *
    have F16 := F15.tr F6
    have B6 := B5.fr F6 (fun h => h)
    have hscan := Scan_ok (bs S) (hg.fr (F1.tr F16))
    unfold ScanP at hscan
    rw [bl_bs] at hscan
    cases hsc : scan S with
    | error f =>
      rw [hsc] at hscan
      refine callLF_ok (x := (f.err : Int)) (y := (f.at' : Int)) (Y := fun _ w' => Fr noB w6 w') (hscan.mono fun en w' h => ⟨⟨none, 0, 0⟩, h.1, h.2⟩) fun sl w7 F7 => new_ok fun w8 m22 hm22 hs8 B8 F8 => ?_
      refine B8.st (o := 0) rfl (by simp) fun w9 B9 F9 => B9.st (o := 1) rfl (by simp) fun w10 B10 F10 => drew_ok fun w11 F11 z11 => (B10.fr F11 (fun h => h)).ld (c := .int .i64) (x := (f.err : Int)) (o := 0) rfl (ite_yes ?_ ?_)
      · have := scan_err hsc
        rw [bne_iff_ne]
        omega
      · refine bad (hbad ?_) (F1.tr ((F16.tr F7).then ((F8.mono fun _ _ h => h.elim).sq (((F9.sq F10).mono fun y _ h => h).sq (F11.mono fun _ _ h => h.elim))) fun y hy h => by have := F16.size; have := F7.size; unfold oneB at h; omega))
        unfold show1
        rw [hS, hsc]
    | ok back =>
      rw [hsc] at hscan
      refine callLF_ok (x := 0) (y := 0) (Y := fun sl w' => w'.ownsRow w6.heap.size 32 3 (.slice sl.a sl.n sl.c) back.length (back.flatMap tokCells) ∧ Fr noB w6 w') (hscan.mono fun en w' ⟨⟨l, h1, h2⟩, h3⟩ => ⟨l, h1, h2, h3⟩) fun l19 w7 ⟨hback, F7⟩ => new_ok fun w8 m22 hm22 hs8 B8 F8 => ?_
      have hbn : l19.n = back.length := by
        obtain ⟨s', hs', hn', _⟩ := slice_of_own hback
        cases l19; cases s'
        simp only [Value.slice.injEq] at hs'
        obtain ⟨rfl, rfl, rfl⟩ := hs'
        exact hn'
      refine B8.st (o := 0) rfl (by simp) fun w9 B9 F9 => B9.st (o := 1) rfl (by simp) fun w10 B10 F10 => drew_ok fun w11 F11 z11 => ?_
      have F7b : Fr noB w6 w11 := F7.then ((F8.mono fun _ _ h => h.elim).sq (((F9.sq F10).mono fun y _ h => h).sq (F11.mono fun _ _ h => h.elim))) fun y hy h => by have := F7.size; unfold oneB at h; omega
      have F711 : Fr noB w7 w11 := (F8.then (F9.sq F10) fun y hy h => by unfold oneB at h; omega).tr F11
      have Fall : Fr noB w w11 := F1.tr (F16.tr F7b)
      have B5' := B5.fr (F6.tr F7b) (fun h => h)
      have hback11 := own_fr0 hback F711
      refine (B10.fr F11 (fun h => h)).ld (c := .int .i64) (x := 0) (o := 0) rfl (ite_no rfl ?_)
      rw [hbn]
      refine ite_ok (fun h2 => bad (hbad ?_) Fall) fun h2 => ?_
      · have h2 : ¬ (back.length : Int) = 2 := by simpa using h2
        exact show1_not (by rw [hS]; exact hsc) (by omega)
      have h2 : (back.length : Int) = 2 := by simpa using h2
      match back, h2 with
      | [a, z], _ =>
        have hsh := show1_two (k := kd) (t := bl tx) (a := a) (z := z) (by rw [hS]; exact hsc)
        rw [hS] at hsh
        obtain ⟨g7, hg7, hcell⟩ : ∃ g, l19.a = some ⟨g, 0, none⟩ ∧ ∀ j v, ([a, z].flatMap tokCells)[j]? = some v → w11.cell? ⟨g, j, none⟩ = some v := by
          rcases hback11.2 with ⟨h, h0⟩ | ⟨g, cap, cur, h, _, _⟩
          · cases h0
          · simp only [Value.slice.injEq] at h
            refine ⟨g, h.1, fun j v hj => ?_⟩
            have := hback11.cells (g := g) (by rw [h.1]; rfl) j v hj
            rw [Addr.add_lit, Nat.zero_add] at this
            exact this
        rw [hg7]
        have hSs := bs_size S
        refine idxB_ok (i := 0) (by simp) (ld_ok (c := .int .i64) (hcell 0 _ rfl) (B5'.ld (c := .int .i64) (x := kd) (o := 0) rfl (ite_ok (fun h => bad (hbad ?_) Fall) fun hk1 => ?_)))
        · have h : ¬ (a.kind : Int) = kd := by simpa using h
          rw [hsh, if_neg fun hh => h hh.1]
        have hk1 : (a.kind : Int) = kd := by simpa using hk1
        refine idxB_ok (i := 0) (by simp) (ld_ok (c := .str) (hcell 1 _ rfl) (B5'.ld (c := .str) (x := tx) (o := 1) rfl ?_))
        rw [eq_bl, bl_bs]
        refine ite_ok (fun h => bad (hbad ?_) Fall) fun ht1 => ?_
        · have h : ¬ a.text = bl tx := by simpa using h
          rw [hsh, if_neg fun hh => h hh.2.1]
        have ht1 : a.text = bl tx := by simpa using ht1
        refine idxB_ok (i := 0) (by simp) (ld_ok (c := .int .i64) (hcell 2 _ rfl) (ite_ok (fun h => bad (hbad ?_) Fall) fun ha1 => ?_))
        · have h : ¬ (a.at' : Int) = 0 := by simpa using h
          rw [hsh, if_neg fun hh => h (by rw [hh.2.2.1]; rfl)]
        have ha1 : (a.at' : Int) = 0 := by simpa using ha1
        refine ite_ok (fun h => bad (hbad ?_) Fall) fun hs1 => ?_
        · have h : ((bs S).size : Int) = 0 := by simpa using h
          have : S = [] := List.eq_nil_of_length_eq_zero (by omega)
          rw [hsh, if_neg fun hh => hh.2.2.2.1 this]
        have hs1 : ¬ ((bs S).size : Int) = 0 := by simpa using hs1
        have hS0 : S ≠ [] := by rintro rfl; exact hs1 rfl
        -- the last question
        have hpass2 : ∀ {K : Bool → G} {R : Ending → World → Prop}, ((kd ≠ 4 → a.text = S) → K false R w11) → (¬ (kd ≠ 4 → a.text = S) → K true R w11) →
            ldG (CT.int IntKind.i64) ⟨m10, 0, none⟩ (fun (n35 : Int) => iteG (n35 != 4) (idxG (some ⟨g7, 0, none⟩) [a, z].length 0 3 fun a36 => ldG CT.str (Addr.add a36 1) fun (s37 : ByteArray) => K (!ByteArray.toList s37 == ByteArray.toList (bs S))) (K false)) R w11 := by
          intro K R h1 h2
          refine B5'.ld (c := .int .i64) (x := kd) (o := 0) rfl (ite_ok (fun h => ?_) fun h => h1 fun h4 => ?_)
          · have h : ¬ kd = 4 := by simpa using h
            refine idxB_ok (i := 0) (by simp) (ld_ok (c := .str) (hcell 1 _ rfl) ?_)
            rw [eq_bl, bl_bs, bl_bs]
            by_cases hh : a.text = S
            · rw [hh]
              have : (!(S == S)) = false := by simp
              rw [this]
              exact h1 fun _ => hh
            · have : (!(a.text == S)) = true := by simpa using hh
              rw [this]
              exact h2 fun h' => hh (h' h)
          · have h : kd = 4 := by simpa using h
            exact absurd h h4
        refine hpass2 (K := fun b => iteG b _ _) (fun htx => ite_no rfl ?_) fun hno => ite_yes rfl (bad (hbad ?_) Fall)
        · have hq3 : showF [] (toks.map fun x => (x.1, bl x.2.1)) = showF (outs ++ [S]) ((toks.drop (k + 1)).map fun x => (x.1, bl x.2.1)) := by
            rw [hq2, hsh, if_pos ⟨hk1, ht1, by omega, hS0, htx⟩]
          refine new_ok fun w12 m39 hm39 hs12 B12 F12 => ?_
          obtain ⟨ti, zz, hi, hz0, e1, e2, e3⟩ := rStr
          have hown12 := own_fr0 (own_fr0 (own_fr0 hown5 F6) F7b) F12
          refine appendC_ok uStrs hi hz0 e1 e2 (by rw [e3]; rfl) (by omega) (s := l3) hown12 (m := 1) (news := [.string (bs S)]) rfl (B12.held fun j v hj => by rw [Nat.zero_add]; exact hj) (fun u hu => by rw [List.mem_singleton.1 hu]; rfl)
            (by unfold maxLen; omega) (by omega) (by have := (Fall.tr F12).size; omega) fun l40 w13 hown13 F13 => ?_
          refine next (outs' := outs ++ [S]) (by rw [List.length_append, List.map_append]; exact hown13) (by rw [List.length_append, List.length_singleton]; omega) (fun y hy => ?_) hq3 ((Fall.tr F12).then F13 fun y hy h => by have := (hown12.lt y h).1; omega)
          rcases List.mem_append.1 hy with hy | hy
          · exact ho4 y hy
          · rw [List.mem_singleton.1 hy]
            omega
        · rw [hsh, if_neg fun hh => hno hh.2.2.2.2]
  rintro l w1 ⟨outs, hq, hown, hol, ho4, F1⟩
  rw [hq]
  obtain ⟨s', hs', hn', _⟩ := slice_of_own hown
  have hln : l.n = outs.length := by
    cases l; cases s'
    simp only [Value.slice.injEq] at hs'
    obtain ⟨rfl, rfl, rfl⟩ := hs'
    exact hn'
  have hemp : outs = [] → callG Tryz.prog 40 #[.slice l.a l.n l.c, .string (bs [32])] [.one .str] (fun (x : ByteArray) => retG (.tuple #[.string x, .int .i64 0])) (fun e w' => (e = .returned (.tuple #[.string (bs (Lib.join outs [32])), .int .i64 0])) ∧ Fr noB w w') w1 := by
    rintro rfl
    rw [hln]
    refine callS_ok (s := ⟨#[]⟩) (Y := fun w' => w' = w1) (Tryz.strings_Join_none l.a l.c (bs [32]) w1) fun w2 hw => ⟨rfl, ?_⟩
    rw [hw]
    exact F1
  rcases hown.2 with ⟨_, h0⟩ | ⟨g, cap, cur, h, _, hg1, hcap, _⟩
  · exact hemp (List.eq_nil_of_length_eq_zero h0)
  · simp only [Value.slice.injEq] at h
    have hmap : (outs.map bs).map (fun x => x.data.toList) = outs := by
      rw [List.map_map]
      conv => rhs; rw [← List.map_id outs]
      exact List.map_congr_left fun x _ => bl_bs x
    have hj := Tryz.strings_Join g 0 cap (outs.map bs) (bs [32]) w1 (fun j x hx => by
      rw [List.getElem?_map, Option.map_eq_some_iff] at hx
      obtain ⟨y, hy, rfl⟩ := hx
      have := hown.cells (g := g) (by rw [h.1]; rfl) j (.string (bs y)) (by rw [List.getElem?_map, hy]; rfl)
      rw [Addr.add_lit] at this
      exact this) (Array.getElem?_eq_some_iff.1 hg1).1 (by rw [List.length_map]; omega) (by rw [List.length_map]; exact hcap) (by rw [hmap]; exact Nat.le_trans (join_le hol ho4) (by omega))
    rw [hmap, List.length_map] at hj
    rw [h.1, h.2.1, h.2.2]
    exact callS_ok (s := bs (Lib.join outs [32])) (Y := fun w' => Fr noB w1 w') (hj.mono fun e w' ⟨h1, h2⟩ => ⟨h1, fr_below h2⟩) fun w2 F2 => ⟨rfl, F1.tr F2⟩
end
end Go.Proofs.YthnfcbjfmghomaaGreatDoor
