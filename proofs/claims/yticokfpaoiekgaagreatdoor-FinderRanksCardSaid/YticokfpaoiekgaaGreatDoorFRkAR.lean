/- The finder law behind FRanksCard: one part of its proof (joined by program out of my own texts). No condition. -/
import Derived.Test.YticokfpaoiekgaaGreatDoorFRkAQ
section
namespace Go.Shp
open Go.Lex
theorem belowF_off {d : Nat} {kA kB : Int} {oA nA oB nB : B} {nsA nsB : List B} {psA psB : List Shape} (fa : fits (.mk kA oA nA nsA psA) = true) (fb : fits (.mk kB oB nB nsB psB) = true) (h : kA ≠ kB ∨ oA ≠ oB ∨ nA ≠ nB) : belowF (d + 1) (.mk kA oA nA nsA psA) (.mk kB oB nB nsB psB) = false := by
  rw [belowF]
  by_cases hk : kA = kB
  · subst hk
    rw [if_neg (by simp)]
    by_cases h9 : kA = 9 ∨ kA = 10
    · rw [if_pos h9]
      rcases h with h | h | h
      · exact absurd rfl h
      · rw [beq_eq_false_iff_ne.2 h]; rfl
      · rw [beq_eq_false_iff_ne.2 h, Bool.and_false]
    · have ha := fits_bare fa (by omega) (by omega)
      have hb := fits_bare fb (by omega) (by omega)
      rw [ha.1, ha.2, hb.1, hb.2] at h
      simp at h
  · rw [if_pos hk]
theorem belowF_on {d : Nat} {k : Int} {o n : B} {nsA nsB : List B} {psA psB : List Shape} (fa : fits (.mk k o n nsA psA) = true) (fb : fits (.mk k o n nsB psB) = true) : belowF (d + 1) (.mk k o n nsA psA) (.mk k o n nsB psB) =
    if k = 6 then withinF (fun x y => belowF d y x) nsB psB nsA psA else if k = 7 then withinF (belowF d) nsA psA nsB psB else funAll (belowF d) psA psB := by
  rw [belowF, if_neg (by simp)]
  by_cases h9 : k = 9 ∨ k = 10
  · rw [if_pos h9, if_neg (by omega), if_neg (by omega), (fits_leaf fa (by omega)).1, (fits_leaf fb (by omega)).1]
    simp [funAll]
  · rw [if_neg h9]
end Go.Shp
namespace Go.Proofs.YticokfpaoiekgaaGreatDoor
open Go.Lift Go.Lex Go.Shp
set_option maxHeartbeats 2000000 in
theorem runder_ok : ∀ (d : Nat) (s s' : Shape), deep s ≤ d → deep s' ≤ d → allFit s = true → allFit s' = true → ∀ {w : World} {k : Int} {o n : ByteArray} {ns ps : Sl} {k2 : Int} {o2 n2 : ByteArray} {ns2 ps2 : Sl}, ShV w k o n ns ps s → ShV w k2 o2 n2 ns2 ps2 s' →
    AnsB 47 #[shArg k o n ns ps, shArg k2 o2 n2 ns2 ps2] w (belowF d s s')
  | 0, s, _, h, _, _, _, _, _, _, _, _, _, _, _, _, _, _, _, _ => by have := deep_pos s; omega
  | d + 1, .mk kA oA nA nsA psA, .mk kB oB nB nsB psB, hda, hdb, hfa0, hfb0, w, k, o, n, ns, ps, k2, o2, n2, ns2, ps2, hv, hv2 => by
    rw [deep_mk] at hda hdb
    obtain ⟨fa, hfa⟩ := allFit_parts hfa0
    obtain ⟨fb, hfb⟩ := allFit_parts hfb0
    obtain ⟨ek, eo, en, ⟨hns, hnl, hpn, hpl, _⟩, hps⟩ := hv.parts
    obtain ⟨ek2, eo2, en2, ⟨hns2, hnl2, hpn2, hpl2, _⟩, hps2⟩ := hv2.parts
    change k = kA at ek
    change bl o = oA at eo
    change bl n = nA at en
    change k2 = kB at ek2
    change bl o2 = oB at eo2
    change bl n2 = nB at en2
    change RdS w ns (nsA.map bs) at hns
    change RdS w ns2 (nsB.map bs) at hns2
    change nsA.length < 4611686018427387904 at hnl
    change nsB.length < 4611686018427387904 at hnl2
    change ps.n = psA.length at hpn
    change ps2.n = psB.length at hpn2
    change psA.length < 4611686018427387904 at hpl
    change ShL w ps.a 0 psA at hps
    change ShL w ps2.a 0 psB at hps2
    have hnn := hns.1
    have hnn2 := hns2.1
    rw [List.length_map] at hnn hnn2
    apply c47
    unfold t47
    refine new_ok fun w1 m10 hm10 hs1 B1 F1 => new_ok fun w2 m11 hm11 hs2 C2 F2 => ?_
    have B2 := B1.fr F2 (fun h => h)
    change Blk w2 m10 _ (shCells k o n ns ps) at B2
    change Blk w2 m11 _ (shCells k2 o2 n2 ns2 ps2) at C2
    have F12 := F1.tr F2
    clear B1
    generalize hT : belowF (d + 1) (.mk kA oA nA nsA psA) (.mk kB oB nB nsB psB) = T
    refine join1_ok (c := .bool) (fun (b : Bool) w' => w' = w2 ∧ b = decide (kA ≠ kB ∨ oA ≠ oB ∨ nA ≠ nB)) (fun kj hkj => ?_) ?_
    · refine B2.ld (c := .int .i64) (x := k) (o := 0) rfl (C2.ld (c := .int .i64) (x := k2) (o := 0) rfl (ite_ok (fun h1 => hkj _ _ ⟨rfl, ?_⟩) fun h1 => ?_))
      · have h1 : kA ≠ kB := by rw [← ek, ← ek2]; simpa using h1
        exact (decide_eq_true (.inl h1)).symm
      have h1 : kA = kB := by rw [← ek, ← ek2]; simpa using h1
      refine B2.ld (c := .str) (x := o) (o := 1) rfl (C2.ld (c := .str) (x := o2) (o := 1) rfl ?_)
      rw [eq_bl, eo, eo2]
      refine ite_ok (fun h2 => hkj _ _ ⟨rfl, ?_⟩) fun h2 => ?_
      · have h2 : oA ≠ oB := by simpa using h2
        exact (decide_eq_true (.inr (.inl h2))).symm
      have h2 : oA = oB := by simpa using h2
      refine B2.ld (c := .str) (x := n) (o := 2) rfl (C2.ld (c := .str) (x := n2) (o := 2) rfl (hkj _ _ ⟨rfl, ?_⟩))
      rw [eq_bl, en, en2, h1, h2]
      by_cases h3 : nA = nB <;> simp [h3]
    rintro b w' ⟨hw', rfl⟩
    replace hw' := hw'.symm
    subst hw'
    refine ite_ok (fun h => ?_) fun h => ?_
    · have h : kA ≠ kB ∨ oA ≠ oB ∨ nA ≠ nB := of_decide_eq_true h
      exact ⟨by rw [← hT, belowF_off fa fb h], F12⟩
    have h : ¬ (kA ≠ kB ∨ oA ≠ oB ∨ nA ≠ nB) := of_decide_eq_false h
    obtain ⟨h1, h2, h3⟩ : kA = kB ∧ oA = oB ∧ nA = nB := by
      refine ⟨Classical.byContradiction fun e => h (.inl e), Classical.byContradiction fun e => h (.inr (.inl e)), Classical.byContradiction fun e => h (.inr (.inr e))⟩
    clear h
    rw [← h1, ← h2, ← h3] at fb hT
    rw [belowF_on fa fb] at hT
    replace hT := hT.symm
    refine B2.ld (c := .int .i64) (x := k) (o := 0) rfl (ite_ok (fun h6 => ?_) fun h6 => ?_)
    rotate_left
    have h6 : ¬ kA = 6 := by rw [← ek]; simpa using h6
    rw [if_neg h6] at hT
    refine B2.ld (c := .int .i64) (x := k) (o := 0) rfl (ite_ok (fun h7 => ?_) fun h7 => ?_)
    rotate_left
    have h7 : ¬ kA = 7 := by rw [← ek]; simpa using h7
    rw [if_neg h7] at hT
    · refine B2.ldS (o := 4) rfl (C2.ldS (o := 4) rfl (ite_ok (fun hl => ⟨?_, F12⟩) fun hl => ?_))
      · have hl : ((ps.n : Nat) : Int) ≠ (ps2.n : Nat) := by simpa using hl
        have : T = false := by
          rw [hT, Bool.eq_false_iff]
          intro h
          have := (funAll_iff.1 h).1
          omega
        rw [this]
      have hl : ((ps.n : Nat) : Int) = (ps2.n : Nat) := by simpa using hl
      refine join0_ok (fun w4 => T = true ∧ Fr noB w2 w4) (fun kend hkend => ?_) fun w4 ⟨h, G4⟩ => ⟨by rw [h], F12.tr G4⟩
      refine countL_ok psA.length (by omega) (fun i w4 => (∀ (j : Nat) (p q : Shape), j < i → psA[j]? = some p → psB[j]? = some q → if j + 1 = psA.length then belowF d p q = true else belowF d q p = true) ∧ Fr noB w2 w4) (fun rec i w4 hi hI hrec => ?_) ⟨fun j x p h => by omega, Fr.refl _ _⟩
      obtain ⟨hdone, G4⟩ := hI
      refine (B2.fr G4 (fun h => h)).ldS (o := 4) rfl (ite_ok (fun hlt => ?_) fun hge => hkend _ ⟨?_, G4⟩)
      · have hlt : (i : Int) < (ps.n : Int) := of_decide_eq_true hlt
        obtain ⟨p, hp⟩ : ∃ p, psA[i]? = some p := ⟨_, List.getElem?_eq_getElem (by omega)⟩
        obtain ⟨q, hq⟩ : ∃ q, psB[i]? = some q := ⟨_, List.getElem?_eq_getElem (by omega)⟩
        have hpm := List.mem_of_getElem? hp
        have hqm := List.mem_of_getElem? hq
        have hdp := deep_mem hpm
        have hdq := deep_mem hqm
        have ew : IntKind.wrap .i64 (((ps.n : Nat) : Int) - 1) = ((ps.n : Nat) : Int) - 1 := wrap_ok (by omega) (by omega)
        have hbad : (if i + 1 = psA.length then belowF d p q else belowF d q p) = false → T = false := fun hb => by
          rw [hT, Bool.eq_false_iff]
          intro h
          have := (funAll_iff.1 h).2 i p q hp hq
          by_cases hl : i + 1 = psA.length
          · rw [if_pos hl] at this hb
            rw [this] at hb
            cases hb
          · rw [if_neg hl] at this hb
            rw [this] at hb
            cases hb
        refine join_in (vs := []) ?_
        refine join1_ok (c := .bool) (fun (b : Bool) w5 => b = (decide (i + 1 = psA.length) && !belowF d p q) ∧ Fr noB w2 w5) (fun kj hkj => drew_ok fun w5 F5 z5 => ?_) ?_
        · have G5 := G4.tr F5
          refine (B2.fr G5 (fun h => h)).ldS (o := 4) rfl (ite_ok (fun he => ?_) fun he => hkj _ _ ⟨?_, G5⟩)
          · have he : (i : Int) = IntKind.wrap .i64 (((ps.n : Nat) : Int) - 1) := by simpa using he
            rw [ew] at he
            refine (B2.fr G5 (fun h => h)).ldS (o := 4) rfl (part_ld (hps.fr (F12.tr G5)) hp hpn fun k1 o1 n1 ns1 ps1 hv1 => ?_)
            refine (C2.fr G5 (fun h => h)).ldS (o := 4) rfl (part_ld (hps2.fr (F12.tr G5)) hq hpn2 fun k3 o3 n3 ns3 ps3 hv3 => ?_)
            refine callB_ok (runder_ok d p q (by omega) (by omega) (hfa p hpm) (hfb q hqm) hv1 hv3) fun w6 F6 => ?_
            have G6 := G5.tr F6
            refine keep_cons ((C2.fr G6 (fun h => h)).held1 rfl) (keep_cons ((B2.fr G6 (fun h => h)).held1 rfl) (keep_cons ((B2.fr G6 (fun h => h)).held1 rfl) (keep_nil (hkj _ _ ⟨?_, G6⟩))))
            rw [decide_eq_true (by omega : i + 1 = psA.length), Bool.true_and]
          · have he : ¬ (i : Int) = IntKind.wrap .i64 (((ps.n : Nat) : Int) - 1) := by simpa using he
            rw [ew] at he
            rw [decide_eq_false (by omega : ¬ i + 1 = psA.length), Bool.false_and]
        rintro b w5 ⟨rfl, G5⟩
        refine ite_ok (fun hb => ⟨?_, F12.tr G5⟩) fun hb1 => ?_
        · rw [Bool.and_eq_true] at hb
          have h1 := of_decide_eq_true hb.1
          have h2 : belowF d p q = false := by simpa using hb.2
          rw [hbad (by rw [if_pos h1]; exact h2)]
        refine join1_ok (c := .bool) (fun (b : Bool) w6 => b = (!decide (i + 1 = psA.length) && !belowF d q p) ∧ Fr noB w2 w6) (fun kj hkj => drew_ok fun w6 F6 z6 => ?_) ?_
        · have G6 := G5.tr F6
          refine (B2.fr G6 (fun h => h)).ldS (o := 4) rfl (ite_ok (fun he => ?_) fun he => hkj _ _ ⟨?_, G6⟩)
          · have he : (i : Int) < IntKind.wrap .i64 (((ps.n : Nat) : Int) - 1) := of_decide_eq_true he
            rw [ew] at he
            refine (C2.fr G6 (fun h => h)).ldS (o := 4) rfl (part_ld (hps2.fr (F12.tr G6)) hq hpn2 fun k3 o3 n3 ns3 ps3 hv3 => ?_)
            refine (B2.fr G6 (fun h => h)).ldS (o := 4) rfl (part_ld (hps.fr (F12.tr G6)) hp hpn fun k1 o1 n1 ns1 ps1 hv1 => ?_)
            refine callB_ok (runder_ok d q p (by omega) (by omega) (hfb q hqm) (hfa p hpm) hv3 hv1) fun w7 F7 => ?_
            have G7 := G6.tr F7
            refine keep_cons ((B2.fr G7 (fun h => h)).held1 rfl) (keep_cons ((C2.fr G7 (fun h => h)).held1 rfl) (keep_cons ((B2.fr G7 (fun h => h)).held1 rfl) (keep_nil (hkj _ _ ⟨?_, G7⟩))))
            rw [decide_eq_false (by omega : ¬ i + 1 = psA.length), Bool.not_false, Bool.true_and]
          · have he : ¬ (i : Int) < IntKind.wrap .i64 (((ps.n : Nat) : Int) - 1) := of_decide_eq_false he
            rw [ew] at he
            rw [decide_eq_true (by omega : i + 1 = psA.length), Bool.not_true, Bool.false_and]
        rintro b w6 ⟨rfl, G6⟩
        refine ite_ok (fun hb => ⟨?_, F12.tr G6⟩) fun hb2 => hrec (by omega) _ ⟨fun j p' q' hj hp' hq' => ?_, G6⟩
        · rw [Bool.and_eq_true] at hb
          have h1 : ¬ i + 1 = psA.length := by simpa using hb.1
          have h2 : belowF d q p = false := by simpa using hb.2
          rw [hbad (by rw [if_neg h1]; exact h2)]
        · rcases Nat.lt_succ_iff_lt_or_eq.1 hj with hj | rfl
          · exact hdone j p' q' hj hp' hq'
          · rw [hp] at hp'
            rw [hq] at hq'
            cases hp'
            cases hq'
            by_cases hl : j + 1 = psA.length
            · rw [if_pos hl]
              rw [decide_eq_true hl, Bool.true_and] at hb1
              simpa using hb1
            · rw [if_neg hl]
              rw [decide_eq_false hl, Bool.not_false, Bool.true_and] at hb2
              simpa using hb2
      · have hge : ¬ (i : Int) < (ps.n : Int) := of_decide_eq_false hge
        rw [hT, funAll_iff]
        refine ⟨by omega, fun j p q hp hq => ?_⟩
        have := (List.getElem?_eq_some_iff.1 hp).1
        exact hdone j p q (by omega) hp hq
    · have h6 : kA = 6 := by rw [← ek]; simpa using h6
      rw [if_pos h6] at hT
      obtain ⟨hla, hda2⟩ := fits_named fa (.inl h6)
      obtain ⟨hlb, hdb2⟩ := fits_named fb (.inl h6)
      refine join0_ok (fun w4 => withinF (fun x y => belowF d y x) nsB psB nsA psA = true ∧ Fr noB w2 w4) (fun kend hkend => ?_) fun w4 ⟨h, G4⟩ => ⟨by rw [hT, h], F12.tr G4⟩
      refine countL_ok nsB.length (by omega) (fun i w4 => (∀ (j : Nat) (x : B) (p : Shape), j < i → nsB[j]? = some x → psB[j]? = some p → ∃ q, find nsA psA x = some q ∧ belowF d q p = true) ∧ Fr noB w2 w4) (fun rec i w4 hi hI hrec => ?_) ⟨fun j x p h => by omega, Fr.refl _ _⟩
      obtain ⟨hdone, G4⟩ := hI
      refine (C2.fr G4 (fun h => h)).ldS (o := 3) rfl (ite_ok (fun hlt => ?_) fun hge => hkend _ ⟨withinF_iff.2 fun j x p hx hp => ?_, G4⟩)
      · have hlt : (i : Int) < (ns2.n : Int) := of_decide_eq_true hlt
        obtain ⟨x, hx⟩ : ∃ x, nsB[i]? = some x := ⟨_, List.getElem?_eq_getElem (by omega)⟩
        obtain ⟨p, hp⟩ : ∃ p, psB[i]? = some p := ⟨_, List.getElem?_eq_getElem (by omega)⟩
        refine join_in (vs := []) (drew_ok fun w5 F5 z5 => ?_)
        have G5 := G4.tr F5
        have hc : ∀ w', Fr noB w w' → Calls Tryz.prog 78 _ w' (PartP w w' (find nsA psA (bl (bs x)))) := fun w' F => rpart_ok (bs x) hv F hla
        rw [bl_bs] at hc
        generalize hf : find nsA psA x = r at hc
        refine (B2.fr G5 (fun h => h)).ldV ((C2.fr G5 (fun h => h)).ldS (o := 3) rfl (str_ldA (hns2.fr (F12.tr G5)) hx fun a ha => both_ok ?_ ?_))
        · refine callPart_ok (hc w5 (F12.tr G5)) fun k1 o1 n1 ns1 ps1 w6 F6 hr => ?_
          have G6 := G5.tr F6
          refine keep_cons ((C2.fr G6 (fun h => h)).held1 rfl) (keep_nil (new_ok fun w7 m hm hs7 M7 F7 => ?_))
          have G7 := G6.tr F7
          have hm2 : w2.heap.size ≤ m := by have := G6.size; omega
          refine keep_cons (held_one ((F6.tr F7).cell ha (fun h => h))) (keep_cons ((C2.fr G7 (fun h => h)).held1 rfl) (keep_cons (B2.fr G7 (fun h => h)).heldV (keep_nil ?_)))
          refine fill_ok M7 rfl rfl rfl rfl rfl rfl fun w8 M8 F8 => ?_
          change Blk w8 m _ (shCells k1 o1 n1 ns1 ps1) at M8
          have G8 := G7.fill hm2 F8
          refine join1_ok (c := .bool) (fun (b : Bool) w9 => b = !(r.any (fun q => belowF d q p)) ∧ Fr noB w2 w9) (fun kj hkj => drew_ok fun w9 F9 z9 => ?_) ?_
          · have G9 := G8.tr F9
            cases r with
            | none => exact ite_yes rfl (hkj _ _ ⟨rfl, G9⟩)
            | some q =>
              have hq := find_mem hf
              have hd1 := deep_mem hq
              refine ite_no rfl ?_
              refine (M8.fr F9 (fun h => h)).ldV ((C2.fr G9 (fun h => h)).ldS (o := 4) rfl (part_ld (hps2.fr (F12.tr G9)) hp hpn2 fun k3 o3 n3 ns3 ps3 hv3 => ?_))
              refine callB_ok (runder_ok d q p (by omega) (by have := deep_mem (List.mem_of_getElem? hp); omega) (hfa q hq) (hfb p (List.mem_of_getElem? hp)) ((hr q rfl).fr (F12.tr G9)) hv3) fun w10 F10 => keep_cons ((C2.fr (G9.tr F10) (fun h => h)).held1 rfl) (keep_nil (hkj _ _ ⟨rfl, G9.tr F10⟩))
          rintro b w9 ⟨rfl, G9⟩
          refine ite_ok (fun hb => ⟨?_, F12.tr G9⟩) fun hb => hrec (by omega) _ ⟨fun j x' p' hj hx' hp' => ?_, G9⟩
          · have hb : r.any (fun q => belowF d q p) = false := by simpa using hb
            refine congrArg (fun b => Ending.returned (.bool b)) (Eq.symm ?_)
            rw [hT, Bool.eq_false_iff]
            intro h
            obtain ⟨q, h1, h2⟩ := withinF_iff.1 h i x p hx hp
            rw [hf] at h1
            rw [h1] at hb
            change belowF d q p = false at hb
            rw [hb] at h2
            cases h2
          · have hb : r.any (fun q => belowF d q p) = true := by simpa using hb
            rcases Nat.lt_succ_iff_lt_or_eq.1 hj with hj | rfl
            · exact hdone j x' p' hj hx' hp'
            · rw [hx] at hx'
              rw [hp] at hp'
              cases hx'
              cases hp'
              cases r with
              | none => cases hb
              | some q => exact ⟨q, hf, hb⟩
        · refine new_ok fun w6 m hm hs7 M6 F6 => ?_
          have G6 := G5.tr F6
          have hm2 : w2.heap.size ≤ m := by have := G5.size; omega
          refine keep_cons (held_one (F6.cell ha (fun h => h))) (keep_cons ((C2.fr G6 (fun h => h)).held1 rfl) (keep_cons (B2.fr G6 (fun h => h)).heldV (keep_nil ?_)))
          refine callPart_ok (hc w6 (F12.tr G6)) fun k1 o1 n1 ns1 ps1 w7 F7 hr => ?_
          have G7 := G6.tr F7
          refine keep_cons ((C2.fr G7 (fun h => h)).held1 rfl) (keep_nil ?_)
          refine fill_ok (M6.fr F7 (fun h => h)) rfl rfl rfl rfl rfl rfl fun w8 M8 F8 => ?_
          change Blk w8 m _ (shCells k1 o1 n1 ns1 ps1) at M8
          have G8 := G7.fill hm2 F8
          refine join1_ok (c := .bool) (fun (b : Bool) w9 => b = !(r.any (fun q => belowF d q p)) ∧ Fr noB w2 w9) (fun kj hkj => drew_ok fun w9 F9 z9 => ?_) ?_
          · have G9 := G8.tr F9
            cases r with
            | none => exact ite_yes rfl (hkj _ _ ⟨rfl, G9⟩)
            | some q =>
              have hq := find_mem hf
              have hd1 := deep_mem hq
              refine ite_no rfl ?_
              refine (M8.fr F9 (fun h => h)).ldV ((C2.fr G9 (fun h => h)).ldS (o := 4) rfl (part_ld (hps2.fr (F12.tr G9)) hp hpn2 fun k3 o3 n3 ns3 ps3 hv3 => ?_))
              refine callB_ok (runder_ok d q p (by omega) (by have := deep_mem (List.mem_of_getElem? hp); omega) (hfa q hq) (hfb p (List.mem_of_getElem? hp)) ((hr q rfl).fr (F12.tr G9)) hv3) fun w10 F10 => keep_cons ((C2.fr (G9.tr F10) (fun h => h)).held1 rfl) (keep_nil (hkj _ _ ⟨rfl, G9.tr F10⟩))
          rintro b w9 ⟨rfl, G9⟩
          refine ite_ok (fun hb => ⟨?_, F12.tr G9⟩) fun hb => hrec (by omega) _ ⟨fun j x' p' hj hx' hp' => ?_, G9⟩
          · have hb : r.any (fun q => belowF d q p) = false := by simpa using hb
            refine congrArg (fun b => Ending.returned (.bool b)) (Eq.symm ?_)
            rw [hT, Bool.eq_false_iff]
            intro h
            obtain ⟨q, h1, h2⟩ := withinF_iff.1 h i x p hx hp
            rw [hf] at h1
            rw [h1] at hb
            change belowF d q p = false at hb
            rw [hb] at h2
            cases h2
          · have hb : r.any (fun q => belowF d q p) = true := by simpa using hb
            rcases Nat.lt_succ_iff_lt_or_eq.1 hj with hj | rfl
            · exact hdone j x' p' hj hx' hp'
            · rw [hx] at hx'
              rw [hp] at hp'
              cases hx'
              cases hp'
              cases r with
              | none => cases hb
              | some q => exact ⟨q, hf, hb⟩
      · have hge : ¬ (i : Int) < (ns2.n : Int) := of_decide_eq_false hge
        have := (List.getElem?_eq_some_iff.1 hx).1
        exact hdone j x p (by omega) hx hp
    · have h7 : kA = 7 := by rw [← ek]; simpa using h7
      rw [if_pos h7] at hT
      obtain ⟨hla, hda2⟩ := fits_named fa (.inr h7)
      obtain ⟨hlb, hdb2⟩ := fits_named fb (.inr h7)
      refine join0_ok (fun w4 => withinF (belowF d) nsA psA nsB psB = true ∧ Fr noB w2 w4) (fun kend hkend => ?_) fun w4 ⟨h, G4⟩ => ⟨by rw [hT, h], F12.tr G4⟩
      refine countL_ok nsA.length (by omega) (fun i w4 => (∀ (j : Nat) (x : B) (p : Shape), j < i → nsA[j]? = some x → psA[j]? = some p → ∃ q, find nsB psB x = some q ∧ belowF d p q = true) ∧ Fr noB w2 w4) (fun rec i w4 hi hI hrec => ?_) ⟨fun j x p h => by omega, Fr.refl _ _⟩
      obtain ⟨hdone, G4⟩ := hI
      refine (B2.fr G4 (fun h => h)).ldS (o := 3) rfl (ite_ok (fun hlt => ?_) fun hge => hkend _ ⟨withinF_iff.2 fun j x p hx hp => ?_, G4⟩)
      · have hlt : (i : Int) < (ns.n : Int) := of_decide_eq_true hlt
        obtain ⟨x, hx⟩ : ∃ x, nsA[i]? = some x := ⟨_, List.getElem?_eq_getElem (by omega)⟩
        obtain ⟨p, hp⟩ : ∃ p, psA[i]? = some p := ⟨_, List.getElem?_eq_getElem (by omega)⟩
        refine join_in (vs := []) (drew_ok fun w5 F5 z5 => ?_)
        have G5 := G4.tr F5
        have hc : ∀ w', Fr noB w w' → Calls Tryz.prog 78 _ w' (PartP w w' (find nsB psB (bl (bs x)))) := fun w' F => rpart_ok (bs x) hv2 F hlb
        rw [bl_bs] at hc
        generalize hf : find nsB psB x = r at hc
        refine (C2.fr G5 (fun h => h)).ldV ((B2.fr G5 (fun h => h)).ldS (o := 3) rfl (str_ldA (hns.fr (F12.tr G5)) hx fun a ha => both_ok ?_ ?_))
        · refine callPart_ok (hc w5 (F12.tr G5)) fun k1 o1 n1 ns1 ps1 w6 F6 hr => ?_
          have G6 := G5.tr F6
          refine keep_cons ((B2.fr G6 (fun h => h)).held1 rfl) (keep_nil (new_ok fun w7 m hm hs7 M7 F7 => ?_))
          have G7 := G6.tr F7
          have hm2 : w2.heap.size ≤ m := by have := G6.size; omega
          refine keep_cons (held_one ((F6.tr F7).cell ha (fun h => h))) (keep_cons ((B2.fr G7 (fun h => h)).held1 rfl) (keep_cons (C2.fr G7 (fun h => h)).heldV (keep_nil ?_)))
          refine fill_ok M7 rfl rfl rfl rfl rfl rfl fun w8 M8 F8 => ?_
          change Blk w8 m _ (shCells k1 o1 n1 ns1 ps1) at M8
          have G8 := G7.fill hm2 F8
          refine join1_ok (c := .bool) (fun (b : Bool) w9 => b = !(r.any (fun q => belowF d p q)) ∧ Fr noB w2 w9) (fun kj hkj => drew_ok fun w9 F9 z9 => ?_) ?_
          · have G9 := G8.tr F9
            cases r with
            | none => exact ite_yes rfl (hkj _ _ ⟨rfl, G9⟩)
            | some q =>
              have hq := find_mem hf
              have hd1 := deep_mem hq
              refine ite_no rfl ?_
              refine (B2.fr G9 (fun h => h)).ldS (o := 4) rfl (part_ld (hps.fr (F12.tr G9)) hp hpn fun k3 o3 n3 ns3 ps3 hv3 => (M8.fr F9 (fun h => h)).ldV ?_)
              refine callB_ok (runder_ok d p q (by have := deep_mem (List.mem_of_getElem? hp); omega) (by omega) (hfa p (List.mem_of_getElem? hp)) (hfb q hq) hv3 ((hr q rfl).fr (F12.tr G9))) fun w10 F10 => keep_cons ((B2.fr (G9.tr F10) (fun h => h)).held1 rfl) (keep_nil (hkj _ _ ⟨rfl, G9.tr F10⟩))
          rintro b w9 ⟨rfl, G9⟩
          refine ite_ok (fun hb => ⟨?_, F12.tr G9⟩) fun hb => hrec (by omega) _ ⟨fun j x' p' hj hx' hp' => ?_, G9⟩
          · have hb : r.any (fun q => belowF d p q) = false := by simpa using hb
            refine congrArg (fun b => Ending.returned (.bool b)) (Eq.symm ?_)
            rw [hT, Bool.eq_false_iff]
            intro h
            obtain ⟨q, h1, h2⟩ := withinF_iff.1 h i x p hx hp
            rw [hf] at h1
            rw [h1] at hb
            change belowF d p q = false at hb
            rw [hb] at h2
            cases h2
          · have hb : r.any (fun q => belowF d p q) = true := by simpa using hb
            rcases Nat.lt_succ_iff_lt_or_eq.1 hj with hj | rfl
            · exact hdone j x' p' hj hx' hp'
            · rw [hx] at hx'
              rw [hp] at hp'
              cases hx'
              cases hp'
              cases r with
              | none => cases hb
              | some q => exact ⟨q, hf, hb⟩
        · refine new_ok fun w6 m hm hs7 M6 F6 => ?_
          have G6 := G5.tr F6
          have hm2 : w2.heap.size ≤ m := by have := G5.size; omega
          refine keep_cons (held_one (F6.cell ha (fun h => h))) (keep_cons ((B2.fr G6 (fun h => h)).held1 rfl) (keep_cons (C2.fr G6 (fun h => h)).heldV (keep_nil ?_)))
          refine callPart_ok (hc w6 (F12.tr G6)) fun k1 o1 n1 ns1 ps1 w7 F7 hr => ?_
          have G7 := G6.tr F7
          refine keep_cons ((B2.fr G7 (fun h => h)).held1 rfl) (keep_nil ?_)
          refine fill_ok (M6.fr F7 (fun h => h)) rfl rfl rfl rfl rfl rfl fun w8 M8 F8 => ?_
          change Blk w8 m _ (shCells k1 o1 n1 ns1 ps1) at M8
          have G8 := G7.fill hm2 F8
          refine join1_ok (c := .bool) (fun (b : Bool) w9 => b = !(r.any (fun q => belowF d p q)) ∧ Fr noB w2 w9) (fun kj hkj => drew_ok fun w9 F9 z9 => ?_) ?_
          · have G9 := G8.tr F9
            cases r with
            | none => exact ite_yes rfl (hkj _ _ ⟨rfl, G9⟩)
            | some q =>
              have hq := find_mem hf
              have hd1 := deep_mem hq
              refine ite_no rfl ?_
              refine (B2.fr G9 (fun h => h)).ldS (o := 4) rfl (part_ld (hps.fr (F12.tr G9)) hp hpn fun k3 o3 n3 ns3 ps3 hv3 => (M8.fr F9 (fun h => h)).ldV ?_)
              refine callB_ok (runder_ok d p q (by have := deep_mem (List.mem_of_getElem? hp); omega) (by omega) (hfa p (List.mem_of_getElem? hp)) (hfb q hq) hv3 ((hr q rfl).fr (F12.tr G9))) fun w10 F10 => keep_cons ((B2.fr (G9.tr F10) (fun h => h)).held1 rfl) (keep_nil (hkj _ _ ⟨rfl, G9.tr F10⟩))
          rintro b w9 ⟨rfl, G9⟩
          refine ite_ok (fun hb => ⟨?_, F12.tr G9⟩) fun hb => hrec (by omega) _ ⟨fun j x' p' hj hx' hp' => ?_, G9⟩
          · have hb : r.any (fun q => belowF d p q) = false := by simpa using hb
            refine congrArg (fun b => Ending.returned (.bool b)) (Eq.symm ?_)
            rw [hT, Bool.eq_false_iff]
            intro h
            obtain ⟨q, h1, h2⟩ := withinF_iff.1 h i x p hx hp
            rw [hf] at h1
            rw [h1] at hb
            change belowF d p q = false at hb
            rw [hb] at h2
            cases h2
          · have hb : r.any (fun q => belowF d p q) = true := by simpa using hb
            rcases Nat.lt_succ_iff_lt_or_eq.1 hj with hj | rfl
            · exact hdone j x' p' hj hx' hp'
            · rw [hx] at hx'
              rw [hp] at hp'
              cases hx'
              cases hp'
              cases r with
              | none => cases hb
              | some q => exact ⟨q, hf, hb⟩
      · have hge : ¬ (i : Int) < (ns.n : Int) := of_decide_eq_false hge
        have := (List.getElem?_eq_some_iff.1 hx).1
        exact hdone j x p (by omega) hx hp
end Go.Proofs.YticokfpaoiekgaaGreatDoor
end
