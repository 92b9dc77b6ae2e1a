/- The law behind: one part of its proof (joined by program out of my own texts). No condition. -/
import Derived.Test.YticokfpaoiekgaaGreatDoorFdrAP
section
namespace Go.Shp
open Go.Lex
theorem fits_five {o n : B} {ns : List B} {ps : List Shape} (h : fits (.mk 5 o n ns ps) = true) : ps.length = 1 := by
 unfold fits at h
 simp only [] at h
 rw [if_neg (by omega), if_pos trivial] at h
 simp only [Bool.and_eq_true, decide_eq_true_eq] at h
 exact h.2
theorem fits_eight {o n : B} {ns : List B} {ps : List Shape} (h : fits (.mk 8 o n ns ps) = true) : 0 < ps.length := by
 unfold fits at h
 simp only [] at h
 rw [if_neg (by omega), if_neg (by omega), if_neg (by omega), if_pos trivial] at h
 simp only [Bool.and_eq_true, decide_eq_true_eq] at h
 exact h.2
end Go.Shp
namespace Go.Proofs.YticokfpaoiekgaaGreatDoor
open Go.Lift Go.Lex Go.Shp
section
variable {w : World}
theorem rpart13_ok : PartC 79 := by
 intro w0 w k o n ns ps s x hv F0 hlen
 obtain ⟨_, _, _, ⟨hns, hnl, hpn, hpl, _⟩, hps⟩ := hv.parts
 have hnn := hns.1
 rw [List.length_map] at hnn
 apply c79
 unfold t79 wrZ ldSZ ldLZ ld5mZ ld5xZ st5Z nw5Z nz5Z jn0Z lpIZ ixZ
 refine new_ok fun w1 m6 hm6 hs1 B1 F1 => new_ok fun w2 m7 hm7 hs2 C2 F2 => ?_
 have B2 := B1.fr F2 (fun h => h)
 change Blk w2 m6 _ (shCells k o n ns ps) at B2
 have F12 := F1.tr F2
 have h67 : m6 ≠ m7 := by omega
 have hw7 : w.heap.size ≤ m7 := by omega
 refine join0_ok (fun w' => find s.names s.parts (bl x) = none ∧ Fr noB w2 w') (fun kend hkend => ?_) fun w3 ⟨hf, F3⟩ => ?_
 ·refine countL_ok s.names.length (by omega) (fun i w3 => (∀ j, j < i → s.names[j]? ≠ some (bl x)) ∧ Fr noB w2 w3) (fun rec i w3 hi hI hrec => ?_) ⟨fun j h => by omega, Fr.refl _ _⟩
  obtain ⟨hdone, F3⟩ := hI
  have B3 := B2.fr F3 (fun h => h)
  refine B3.ldS (o := 3) rfl (ite_ok (fun hlt => ?_) fun hge => hkend _ ⟨find_le fun j hj => ?_, F3⟩)
  ·have hlt : (i : Int) < (ns.n : Int) := of_decide_eq_true hlt
   obtain ⟨y, hy⟩ : ∃ y, s.names[i]? = some y := ⟨_, List.getElem?_eq_getElem (by omega)⟩
   obtain ⟨q, hq⟩ : ∃ q, s.parts[i]? = some q := ⟨_, List.getElem?_eq_getElem (by omega)⟩
   refine join_in (vs := []) (B3.ldS (o := 3) rfl (str_ld (hns.fr (F0.tr (F12.tr F3))) hy ?_))
   rw [eq_bl, bl_bs]
   refine ite_ok (fun he => ?_) fun hne => hrec (by omega) _ ⟨fun j hj => ?_, F3⟩
   ·have he : y = bl x := by simpa using he
    refine B3.ldS (o := 4) rfl (part_ld0 hps (F0.tr (F12.tr F3)) hq hpn fun k1 o1 n1 ns1 ps1 hv1 => ?_)
    refine fill_ok (C2.fr F3 (fun h => h)) rfl rfl rfl rfl rfl rfl fun w4 C4 F4 => ?_
    change Blk w4 m7 _ (shCells k1 o1 n1 ns1 ps1) at C4
    have F24 : Fr noB w w4 := (F12.tr F3).fill hw7 F4
    refine C4.ldV ⟨k1, o1, n1, ns1, ps1, ?_, F24, fun r hr => ?_⟩
    ·rw [find_first hdone (by rw [hy, he]) hq]
     rfl
    ·rw [find_first hdone (by rw [hy, he]) hq] at hr
     cases hr
     exact hv1
   ·have hne : y ≠ bl x := by simpa using hne
    rcases Nat.lt_succ_iff_lt_or_eq.1 hj with hj | rfl
    ·exact hdone j hj
    ·rw [hy]
     intro e
     exact hne (Option.some.inj e)
  ·have hge : ¬ (i : Int) < (ns.n : Int) := of_decide_eq_false hge
   have := (List.getElem?_eq_some_iff.1 hj).1
   exact hdone j (by omega) hj
 ·rw [hf]
  refine fill_ok (C2.fr F3 (fun h => h)) rfl rfl rfl rfl rfl rfl fun w4 C4 F4 => ?_
  change Blk w4 m7 _ (shCells 0 (ByteArray.mk #[]) (ByteArray.mk #[]) ⟨none, 0, 0⟩ ⟨none, 0, 0⟩) at C4
  exact C4.ldV ⟨0, ByteArray.mk #[], ByteArray.mk #[], ⟨none, 0, 0⟩, ⟨none, 0, 0⟩, rfl, (F12.tr F3).fill hw7 F4, fun q hq => by cases hq⟩
end
theorem nat0 {n : Nat} (h : ((n : Int) == 0) = true) : n = 0 := by simpa using h
set_option maxHeartbeats 2000000 in
theorem rnear_ok : ∀ (d : Nat) (s s' : Shape), deep s ≤ d → deep s' ≤ d → allFit s = true → allFit s' = true → ∀ {w : World} {k : Int} {o n : ByteArray} {ns ps : Sl} {k2 : Int} {o2 n2 : ByteArray} {ns2 ps2 : Sl}, ShV w k o n ns ps s → ShV w k2 o2 n2 ns2 ps2 s' →
  AnsB 48 #[shArg k o n ns ps, shArg k2 o2 n2 ns2 ps2] w (nearF d s s')
 | 0, s, _, h, _, _, _, _, _, _, _, _, _, _, _, _, _, _, _, _ => by have := deep_pos s; omega
 | d + 1, .mk kA oA nA nsA psA, .mk kB oB nB nsB psB, hda, hdb, hfa0, hfb0, w, k, o, n, ns, ps, k2, o2, n2, ns2, ps2, hv, hv2 => by
  rw [deep_mk] at hda hdb
  obtain ⟨fa, hfa⟩ := allFit_parts hfa0
  obtain ⟨fb, hfb⟩ := allFit_parts hfb0
  obtain ⟨ek, eo, en, ⟨hns, hnl, hpn, hpl, _⟩, hps⟩ := hv.parts
  obtain ⟨ek2, eo2, en2, ⟨hns2, hnl2, hpn2, hpl2, _⟩, hps2⟩ := hv2.parts
  change k = kA at ek
  change bl o = oA at eo
  change bl n = nA at en
  change k2 = kB at ek2
  change bl o2 = oB at eo2
  change bl n2 = nB at en2
  change RdS w ns (nsA.map bs) at hns
  change RdS w ns2 (nsB.map bs) at hns2
  change nsA.length < 4611686018427387904 at hnl
  change nsB.length < 4611686018427387904 at hnl2
  change ps.n = psA.length at hpn
  change ps2.n = psB.length at hpn2
  change psA.length < 4611686018427387904 at hpl
  change ShL w ps.a 0 psA at hps
  change ShL w ps2.a 0 psB at hps2
  have hnn := hns.1
  have hnn2 := hns2.1
  rw [List.length_map] at hnn hnn2
  apply c48
  unfold t48 wrZ tvZ svZ shZ kfZ ldIZ ldSZ ldLZ ld5mZ ld5xZ st5Z nw5Z nz5Z caBZ ca5BZ jn0Z jnBZ lpIZ ixZ
  refine new_ok fun w1 m10 hm10 hs1 B1 F1 => new_ok fun w2 m11 hm11 hs2 C2 F2 => ?_
  have B2 := B1.fr F2 (fun h => h)
  change Blk w2 m10 _ (shCells k o n ns ps) at B2
  change Blk w2 m11 _ (shCells k2 o2 n2 ns2 ps2) at C2
  have F12 := F1.tr F2
  clear B1
  generalize hT : nearF (d + 1) (.mk kA oA nA nsA psA) (.mk kB oB nB nsB psB) = T
  have hN : nearF (d + 1) (.mk kA oA nA nsA psA) (.mk kB oB nB nsB psB) = if kA = 4 ∨ kB = 4 then true else if kA ≠ kB ∨ oA ≠ oB ∨ nA ≠ nB then false else if kA = 6 then withinF (fun x y => nearF d y x) nsB psB nsA psA else if kA = 7 then withinF (nearF d) nsA psA nsB psB else funAll (nearF d) psA psB := by rw [nearF]
  rw [hN] at hT
  replace hT := hT.symm
  refine join1_ok (c := .bool) (fun (b : Bool) w' => w' = w2 ∧ b = decide (kA = 4 ∨ kB = 4)) (fun kj hkj => B2.ld (c := .int .i64) (x := k) (o := 0) rfl (ite_ok (fun h1 => hkj _ _ ⟨rfl, ?_⟩) fun h1 => C2.ld (c := .int .i64) (x := k2) (o := 0) rfl (hkj _ _ ⟨rfl, ?_⟩))) ?_
  ·have h1 : kA = 4 := by rw [← ek]; simpa using h1
   exact (decide_eq_true (.inl h1)).symm
  ·have h1 : ¬ kA = 4 := by rw [← ek]; simpa using h1
   rw [Bool.eq_iff_iff, beq_iff_eq, decide_eq_true_eq]
   omega
  rintro b w' ⟨hw', rfl⟩
  replace hw' := hw'.symm
  subst hw'
  refine ite_ok (fun h => ?_) fun h4 => ?_
  ·have h : kA = 4 ∨ kB = 4 := of_decide_eq_true h
   exact ⟨by rw [hT, if_pos h], F12⟩
  have h4 : ¬ (kA = 4 ∨ kB = 4) := of_decide_eq_false h4
  rw [if_neg h4] at hT
  refine join1_ok (c := .bool) (fun (b : Bool) w' => w' = w2 ∧ b = decide (kA ≠ kB ∨ oA ≠ oB ∨ nA ≠ nB)) (fun kj hkj => ?_) ?_
  ·refine B2.ld (c := .int .i64) (x := k) (o := 0) rfl (C2.ld (c := .int .i64) (x := k2) (o := 0) rfl (ite_ok (fun h1 => hkj _ _ ⟨rfl, ?_⟩) fun h1 => ?_))
   ·have h1 : kA ≠ kB := by rw [← ek, ← ek2]; simpa using h1
    exact (decide_eq_true (.inl h1)).symm
   have h1 : kA = kB := by rw [← ek, ← ek2]; simpa using h1
   refine B2.ld (c := .str) (x := o) (o := 1) rfl (C2.ld (c := .str) (x := o2) (o := 1) rfl ?_)
   rw [eq_bl, eo, eo2]
   refine ite_ok (fun h2 => hkj _ _ ⟨rfl, ?_⟩) fun h2 => ?_
   ·have h2 : oA ≠ oB := by simpa using h2
    exact (decide_eq_true (.inr (.inl h2))).symm
   have h2 : oA = oB := by simpa using h2
   refine B2.ld (c := .str) (x := n) (o := 2) rfl (C2.ld (c := .str) (x := n2) (o := 2) rfl (hkj _ _ ⟨rfl, ?_⟩))
   rw [eq_bl, en, en2, h1, h2]
   by_cases h3 : nA = nB <;> simp [h3]
  rintro b w' ⟨hw', rfl⟩
  replace hw' := hw'.symm
  subst hw'
  refine ite_ok (fun h => ?_) fun h => ?_
  ·have h : kA ≠ kB ∨ oA ≠ oB ∨ nA ≠ nB := of_decide_eq_true h
   exact ⟨by rw [hT, if_pos h], F12⟩
  have h : ¬ (kA ≠ kB ∨ oA ≠ oB ∨ nA ≠ nB) := of_decide_eq_false h
  rw [if_neg h] at hT
  obtain ⟨h1, h2, h3⟩ : kA = kB ∧ oA = oB ∧ nA = nB := by
   refine ⟨Classical.byContradiction fun e => h (.inl e), Classical.byContradiction fun e => h (.inr (.inl e)), Classical.byContradiction fun e => h (.inr (.inr e))⟩
  clear h hN
  rw [← h1, ← h2, ← h3] at fb
  refine B2.ld (c := .int .i64) (x := k) (o := 0) rfl (join0_ok (fun w' => T = true ∧ Fr noB w2 w') (fun kj hkj => ?_) fun w' ⟨h, F⟩ => ⟨by rw [h], F12.tr F⟩)
  refine ite_ok (fun h6 => ?_) fun h6 => ?_
  rotate_left
  have h6 : ¬ kA = 6 := by rw [← ek]; simpa using h6
  rw [if_neg h6] at hT
  refine ite_ok (fun h7 => ?_) fun h7 => ?_
  rotate_left
  have h7 : ¬ kA = 7 := by rw [← ek]; simpa using h7
  rw [if_neg h7] at hT
  ·refine ite_ok (fun h8 => ?_) fun h8 => ?_
   ·have h8 : kA = 8 := by rw [← ek]; simpa using h8
    have hpos : 0 < psA.length := fits_eight (by rw [h8] at fa; exact fa)
    have e1 : IntKind.wrap .i64 (((ps.n : Nat) : Int) - 1) = ((psA.length - 1 : Nat) : Int) := by rw [wrap_ok (by omega) (by omega)]; omega
    have e2 : IntKind.wrap .i64 (IntKind.wrap .i64 (((ps.n : Nat) : Int) - 1) + 1) = ((psA.length : Nat) : Int) := by rw [e1, wrap_ok (by omega) (by omega)]; omega
    refine B2.ldS (o := 4) rfl ?_
    refine join1_ok (c := .bool) (fun (b : Bool) w5 => (b = true → T = false) ∧ (b = false → psA.length = psB.length ∧ ∀ p q : Shape, psA[psA.length - 1]? = some p → psB[psA.length - 1]? = some q → nearF d p q = true) ∧ Fr noB w2 w5) (fun kj2 hkj2 => drew_ok fun w5 G5 z5 => ?_) ?_
    ·refine (C2.fr G5 (fun h => h)).ldS (o := 4) rfl (ite_ok (fun hl => hkj2 _ _ ⟨fun _ => ?_, fun h => (by cases h), G5⟩) fun hl => ?_)
     ·have hl : ((ps2.n : Nat) : Int) ≠ IntKind.wrap .i64 (IntKind.wrap .i64 (((ps.n : Nat) : Int) - 1) + 1) := by simpa using hl
      rw [e2] at hl
      rw [hT, Bool.eq_false_iff]
      intro h
      have := (funAll_iff.1 h).1
      omega
     have hl : ((ps2.n : Nat) : Int) = IntKind.wrap .i64 (IntKind.wrap .i64 (((ps.n : Nat) : Int) - 1) + 1) := by simpa using hl
     rw [e2] at hl
     have hl : psA.length = psB.length := by omega
     obtain ⟨p, hp⟩ : ∃ p, psA[psA.length - 1]? = some p := ⟨_, List.getElem?_eq_getElem (by omega)⟩
     obtain ⟨q, hq⟩ : ∃ q, psB[psA.length - 1]? = some q := ⟨_, List.getElem?_eq_getElem (by omega)⟩
     have hpm := List.mem_of_getElem? hp
     have hqm := List.mem_of_getElem? hq
     have hdp := deep_mem hpm
     have hdq := deep_mem hqm
     rw [e1]
     refine (B2.fr G5 (fun h => h)).ldS (o := 4) rfl (part_ld (hps.fr (F12.tr G5)) hp hpn fun k1 o1 n1 ns1 ps1 hv1 => ?_)
     refine (C2.fr G5 (fun h => h)).ldS (o := 4) rfl (part_ld (hps2.fr (F12.tr G5)) hq hpn2 fun k3 o3 n3 ns3 ps3 hv3 => ?_)
     refine callB_ok (rnear_ok d p q (by omega) (by omega) (hfa p hpm) (hfb q hqm) hv1 hv3) fun w6 F6 => ?_
     have G6 := G5.tr F6
     refine keep_cons ((C2.fr G6 (fun h => h)).held1 rfl) (keep_cons ((B2.fr G6 (fun h => h)).held1 rfl) (keep_cons ((C2.fr G6 (fun h => h)).held1 rfl) (keep_nil (hkj2 _ _ ⟨fun h => ?_, fun h => ⟨hl, fun p' q' hp' hq' => ?_⟩, G6⟩))))
     ·have h : nearF d p q = false := by simpa using h
      rw [hT, Bool.eq_false_iff]
      intro hh
      have := (funAll_iff.1 hh).2 _ p q hp hq
      rw [if_pos (by omega), h] at this
      cases this
     ·rw [hp] at hp'
      rw [hq] at hq'
      cases hp'
      cases hq'
      simpa using h
    rintro b w5 ⟨hb1, hb2, G5⟩
    refine ite_ok (fun hb => ⟨by rw [hb1 hb], F12.tr G5⟩) fun hb => ?_
    obtain ⟨hl, hlast⟩ := hb2 hb
    refine join0_ok (fun w4 => T = true ∧ Fr noB w2 w4) (fun kend hkend => ?_) fun w4 ⟨h, G4⟩ => ⟨by rw [h], F12.tr G4⟩
    rw [e1]
    refine countL_ok (psA.length - 1) (by omega) (fun i w4 => (∀ (j : Nat) (p q : Shape), j < i → psA[j]? = some p → psB[j]? = some q → nearF d q p = true) ∧ Fr noB w2 w4) (fun rec i w4 hi hI hrec => ?_) ⟨fun j x p h => by omega, G5⟩
    obtain ⟨hdone, G4⟩ := hI
    refine ite_ok (fun hlt => ?_) fun hge => hkend _ ⟨?_, G4⟩
    ·have hlt : (i : Int) < ((psA.length - 1 : Nat) : Int) := of_decide_eq_true hlt
     obtain ⟨p, hp⟩ : ∃ p, psA[i]? = some p := ⟨_, List.getElem?_eq_getElem (by omega)⟩
     obtain ⟨q, hq⟩ : ∃ q, psB[i]? = some q := ⟨_, List.getElem?_eq_getElem (by omega)⟩
     have hpm := List.mem_of_getElem? hp
     have hqm := List.mem_of_getElem? hq
     have hdp := deep_mem hpm
     have hdq := deep_mem hqm
     refine join_in (vs := []) (drew_ok fun w6 F6 z6 => ?_)
     have G6 := G4.tr F6
     refine (C2.fr G6 (fun h => h)).ldS (o := 4) rfl (part_ld (hps2.fr (F12.tr G6)) hq hpn2 fun k3 o3 n3 ns3 ps3 hv3 => ?_)
     refine (B2.fr G6 (fun h => h)).ldS (o := 4) rfl (part_ld (hps.fr (F12.tr G6)) hp hpn fun k1 o1 n1 ns1 ps1 hv1 => ?_)
     refine callB_ok (rnear_ok d q p (by omega) (by omega) (hfb q hqm) (hfa p hpm) hv3 hv1) fun w7 F7 => ?_
     have G7 := G6.tr F7
     refine keep_cons ((B2.fr G7 (fun h => h)).held1 rfl) (keep_cons ((C2.fr G7 (fun h => h)).held1 rfl) (keep_nil ?_))
     refine ite_ok (fun hb => ⟨?_, F12.tr G7⟩) fun hb => hrec (by omega) _ ⟨fun j p' q' hj hp' hq' => ?_, G7⟩
     ·have h : nearF d q p = false := by simpa using hb
      refine congrArg (fun b => Ending.returned (.bool b)) (Eq.symm ?_)
      rw [hT, Bool.eq_false_iff]
      intro hh
      have := (funAll_iff.1 hh).2 i p q hp hq
      rw [if_neg (by omega), h] at this
      cases this
     ·rcases Nat.lt_succ_iff_lt_or_eq.1 hj with hj | rfl
      ·exact hdone j p' q' hj hp' hq'
      ·rw [hp] at hp'
       rw [hq] at hq'
       cases hp'
       cases hq'
       simpa using hb
    ·have hge : ¬ (i : Int) < ((psA.length - 1 : Nat) : Int) := of_decide_eq_false hge
     rw [hT, funAll_iff]
     refine ⟨hl, fun j p q hp hq => ?_⟩
     have := (List.getElem?_eq_some_iff.1 hp).1
     by_cases hj : j + 1 = psA.length
     ·rw [if_pos hj]
      exact hlast p q (by rw [show psA.length - 1 = j by omega]; exact hp) (by rw [show psA.length - 1 = j by omega]; exact hq)
     ·rw [if_neg hj]
      exact hdone j p q (by omega) hp hq
   have h8 : ¬ kA = 8 := by rw [← ek]; simpa using h8
   refine ite_ok (fun h5 => ?_) fun h5 => ?_
   ·have h5 : kA = 5 := by rw [← ek]; simpa using h5
    have ha1 : psA.length = 1 := fits_five (by rw [h5] at fa; exact fa)
    have hb1 : psB.length = 1 := fits_five (by rw [h5] at fb; exact fb)
    obtain ⟨p, hp⟩ : ∃ p, psA[0]? = some p := ⟨_, List.getElem?_eq_getElem (by omega)⟩
    obtain ⟨q, hq⟩ : ∃ q, psB[0]? = some q := ⟨_, List.getElem?_eq_getElem (by omega)⟩
    have hpm := List.mem_of_getElem? hp
    have hqm := List.mem_of_getElem? hq
    have hdp := deep_mem hpm
    have hdq := deep_mem hqm
    refine drew_ok fun w5 G5 z5 => ?_
    refine (B2.fr G5 (fun h => h)).ldS (o := 4) rfl (part_ld (i := 0) (hps.fr (F12.tr G5)) hp hpn fun k1 o1 n1 ns1 ps1 hv1 => ?_)
    refine (C2.fr G5 (fun h => h)).ldS (o := 4) rfl (part_ld (i := 0) (hps2.fr (F12.tr G5)) hq hpn2 fun k3 o3 n3 ns3 ps3 hv3 => ?_)
    refine callB_ok (rnear_ok d p q (by omega) (by omega) (hfa p hpm) (hfb q hqm) hv1 hv3) fun w6 F6 => ?_
    have G6 := G5.tr F6
    refine keep_cons ((C2.fr G6 (fun h => h)).held1 rfl) (keep_cons ((B2.fr G6 (fun h => h)).held1 rfl) (keep_nil ⟨?_, F12.tr G6⟩))
    refine congrArg (fun b => Ending.returned (.bool b)) (Eq.symm ?_)
    rw [hT, Bool.eq_iff_iff, funAll_iff]
    constructor
    ·intro h
     have := h.2 0 p q hp hq
     rwa [if_pos (by omega)] at this
    ·intro h
     refine ⟨by omega, fun j p' q' hp' hq' => ?_⟩
     have := (List.getElem?_eq_some_iff.1 hp').1
     have hj : j = 0 := by omega
     subst hj
     rw [hp] at hp'
     rw [hq] at hq'
     cases hp'
     cases hq'
     rw [if_pos (by omega)]
     exact h
   have h5 : ¬ kA = 5 := by rw [← ek]; simpa using h5
   refine hkj _ ⟨?_, Fr.refl _ _⟩
   rw [hT, (fits_leaf fa ⟨h5, h6, h7, h8⟩).1, (fits_leaf fb ⟨h5, h6, h7, h8⟩).1]
   rfl
  ·have h6 : kA = 6 := by rw [← ek]; simpa using h6
   rw [if_pos h6] at hT
   obtain ⟨hla, hda2⟩ := fits_named fa (.inl h6)
   obtain ⟨hlb, hdb2⟩ := fits_named fb (.inl h6)
   refine join0_ok (fun w4 => withinF (fun x y => nearF d y x) nsB psB nsA psA = true ∧ Fr noB w2 w4) (fun kend hkend => ?_) fun w4 ⟨h, G4⟩ => ⟨by rw [hT, h], F12.tr G4⟩
   refine countL_ok nsB.length (by omega) (fun i w4 => (∀ (j : Nat) (x : B) (p : Shape), j < i → nsB[j]? = some x → psB[j]? = some p → ∃ q, find nsA psA x = some q ∧ nearF d q p = true) ∧ Fr noB w2 w4) (fun rec i w4 hi hI hrec => ?_) ⟨fun j x p h => by omega, Fr.refl _ _⟩
   obtain ⟨hdone, G4⟩ := hI
   refine (C2.fr G4 (fun h => h)).ldS (o := 3) rfl (ite_ok (fun hlt => ?_) fun hge => hkend _ ⟨withinF_iff.2 fun j x p hx hp => ?_, G4⟩)
   ·have hlt : (i : Int) < (ns2.n : Int) := of_decide_eq_true hlt
    obtain ⟨x, hx⟩ : ∃ x, nsB[i]? = some x := ⟨_, List.getElem?_eq_getElem (by omega)⟩
    obtain ⟨p, hp⟩ : ∃ p, psB[i]? = some p := ⟨_, List.getElem?_eq_getElem (by omega)⟩
    refine join_in (vs := []) (drew_ok fun w5 F5 z5 => ?_)
    have G5 := G4.tr F5
    have hc : ∀ w', Fr noB w w' → Calls Tryz.prog 79 _ w' (PartP w w' (find nsA psA (bl (bs x)))) := fun w' F => rpart13_ok (bs x) hv F hla
    rw [bl_bs] at hc
    generalize hf : find nsA psA x = r at hc
    refine (B2.fr G5 (fun h => h)).ldV ((C2.fr G5 (fun h => h)).ldS (o := 3) rfl (str_ldA (hns2.fr (F12.tr G5)) hx fun a ha => both_ok ?_ ?_))
    ·refine callPart_ok (hc w5 (F12.tr G5)) fun k1 o1 n1 ns1 ps1 w6 F6 hr => ?_
     have G6 := G5.tr F6
     refine keep_cons ((C2.fr G6 (fun h => h)).held1 rfl) (keep_nil (new_ok fun w7 m hm hs7 M7 F7 => ?_))
     have G7 := G6.tr F7
     have hm2 : w2.heap.size ≤ m := by have := G6.size; omega
     refine keep_cons (held_one ((F6.tr F7).cell ha (fun h => h))) (keep_cons ((C2.fr G7 (fun h => h)).held1 rfl) (keep_cons (B2.fr G7 (fun h => h)).heldV (keep_nil ?_)))
     refine fill_ok M7 rfl rfl rfl rfl rfl rfl fun w8 M8 F8 => ?_
     change Blk w8 m _ (shCells k1 o1 n1 ns1 ps1) at M8
     have G8 := G7.fill hm2 F8
     refine join1_ok (c := .bool) (fun (b : Bool) w9 => b = !(r.any (fun q => nearF d q p)) ∧ Fr noB w2 w9) (fun kj hkj => drew_ok fun w9 F9 z9 => ?_) ?_
     ·have G9 := G8.tr F9
      cases r with
      | none => exact ite_yes rfl (hkj _ _ ⟨rfl, G9⟩)
      | some q =>
       have hq := find_mem hf
       have hd1 := deep_mem hq
       refine ite_no rfl ?_
       refine (M8.fr F9 (fun h => h)).ldV ((C2.fr G9 (fun h => h)).ldS (o := 4) rfl (part_ld (hps2.fr (F12.tr G9)) hp hpn2 fun k3 o3 n3 ns3 ps3 hv3 => ?_))
       refine callB_ok (rnear_ok d q p (by omega) (by have := deep_mem (List.mem_of_getElem? hp); omega) (hfa q hq) (hfb p (List.mem_of_getElem? hp)) ((hr q rfl).fr (F12.tr G9)) hv3) fun w10 F10 => keep_cons ((C2.fr (G9.tr F10) (fun h => h)).held1 rfl) (keep_nil (hkj _ _ ⟨rfl, G9.tr F10⟩))
     rintro b w9 ⟨rfl, G9⟩
     refine ite_ok (fun hb => ⟨?_, F12.tr G9⟩) fun hb => hrec (by omega) _ ⟨fun j x' p' hj hx' hp' => ?_, G9⟩
     ·have hb : r.any (fun q => nearF d q p) = false := by simpa using hb
      refine congrArg (fun b => Ending.returned (.bool b)) (Eq.symm ?_)
      rw [hT, Bool.eq_false_iff]
      intro h
      obtain ⟨q, h1, h2⟩ := withinF_iff.1 h i x p hx hp
      rw [hf] at h1
      rw [h1] at hb
      change nearF d q p = false at hb
      rw [hb] at h2
      cases h2
     ·have hb : r.any (fun q => nearF d q p) = true := by simpa using hb
      rcases Nat.lt_succ_iff_lt_or_eq.1 hj with hj | rfl
      ·exact hdone j x' p' hj hx' hp'
      ·rw [hx] at hx'
       rw [hp] at hp'
       cases hx'
       cases hp'
       cases r with
       | none => cases hb
       | some q => exact ⟨q, hf, hb⟩
    ·refine new_ok fun w6 m hm hs7 M6 F6 => ?_
     have G6 := G5.tr F6
     have hm2 : w2.heap.size ≤ m := by have := G5.size; omega
     refine keep_cons (held_one (F6.cell ha (fun h => h))) (keep_cons ((C2.fr G6 (fun h => h)).held1 rfl) (keep_cons (B2.fr G6 (fun h => h)).heldV (keep_nil ?_)))
     refine callPart_ok (hc w6 (F12.tr G6)) fun k1 o1 n1 ns1 ps1 w7 F7 hr => ?_
     have G7 := G6.tr F7
     refine keep_cons ((C2.fr G7 (fun h => h)).held1 rfl) (keep_nil ?_)
     refine fill_ok (M6.fr F7 (fun h => h)) rfl rfl rfl rfl rfl rfl fun w8 M8 F8 => ?_
     change Blk w8 m _ (shCells k1 o1 n1 ns1 ps1) at M8
     have G8 := G7.fill hm2 F8
     refine join1_ok (c := .bool) (fun (b : Bool) w9 => b = !(r.any (fun q => nearF d q p)) ∧ Fr noB w2 w9) (fun kj hkj => drew_ok fun w9 F9 z9 => ?_) ?_
     ·have G9 := G8.tr F9
      cases r with
      | none => exact ite_yes rfl (hkj _ _ ⟨rfl, G9⟩)
      | some q =>
       have hq := find_mem hf
       have hd1 := deep_mem hq
       refine ite_no rfl ?_
       refine (M8.fr F9 (fun h => h)).ldV ((C2.fr G9 (fun h => h)).ldS (o := 4) rfl (part_ld (hps2.fr (F12.tr G9)) hp hpn2 fun k3 o3 n3 ns3 ps3 hv3 => ?_))
       refine callB_ok (rnear_ok d q p (by omega) (by have := deep_mem (List.mem_of_getElem? hp); omega) (hfa q hq) (hfb p (List.mem_of_getElem? hp)) ((hr q rfl).fr (F12.tr G9)) hv3) fun w10 F10 => keep_cons ((C2.fr (G9.tr F10) (fun h => h)).held1 rfl) (keep_nil (hkj _ _ ⟨rfl, G9.tr F10⟩))
     rintro b w9 ⟨rfl, G9⟩
     refine ite_ok (fun hb => ⟨?_, F12.tr G9⟩) fun hb => hrec (by omega) _ ⟨fun j x' p' hj hx' hp' => ?_, G9⟩
     ·have hb : r.any (fun q => nearF d q p) = false := by simpa using hb
      refine congrArg (fun b => Ending.returned (.bool b)) (Eq.symm ?_)
      rw [hT, Bool.eq_false_iff]
      intro h
      obtain ⟨q, h1, h2⟩ := withinF_iff.1 h i x p hx hp
      rw [hf] at h1
      rw [h1] at hb
      change nearF d q p = false at hb
      rw [hb] at h2
      cases h2
     ·have hb : r.any (fun q => nearF d q p) = true := by simpa using hb
      rcases Nat.lt_succ_iff_lt_or_eq.1 hj with hj | rfl
      ·exact hdone j x' p' hj hx' hp'
      ·rw [hx] at hx'
       rw [hp] at hp'
       cases hx'
       cases hp'
       cases r with
       | none => cases hb
       | some q => exact ⟨q, hf, hb⟩
   ·have hge : ¬ (i : Int) < (ns2.n : Int) := of_decide_eq_false hge
    have := (List.getElem?_eq_some_iff.1 hx).1
    exact hdone j x p (by omega) hx hp
  ·have h7 : kA = 7 := by rw [← ek]; simpa using h7
   rw [if_pos h7] at hT
   obtain ⟨hla, hda2⟩ := fits_named fa (.inr h7)
   obtain ⟨hlb, hdb2⟩ := fits_named fb (.inr h7)
   refine join0_ok (fun w4 => withinF (nearF d) nsA psA nsB psB = true ∧ Fr noB w2 w4) (fun kend hkend => ?_) fun w4 ⟨h, G4⟩ => ⟨by rw [hT, h], F12.tr G4⟩
   refine countL_ok nsA.length (by omega) (fun i w4 => (∀ (j : Nat) (x : B) (p : Shape), j < i → nsA[j]? = some x → psA[j]? = some p → ∃ q, find nsB psB x = some q ∧ nearF d p q = true) ∧ Fr noB w2 w4) (fun rec i w4 hi hI hrec => ?_) ⟨fun j x p h => by omega, Fr.refl _ _⟩
   obtain ⟨hdone, G4⟩ := hI
   refine (B2.fr G4 (fun h => h)).ldS (o := 3) rfl (ite_ok (fun hlt => ?_) fun hge => hkend _ ⟨withinF_iff.2 fun j x p hx hp => ?_, G4⟩)
   ·have hlt : (i : Int) < (ns.n : Int) := of_decide_eq_true hlt
    obtain ⟨x, hx⟩ : ∃ x, nsA[i]? = some x := ⟨_, List.getElem?_eq_getElem (by omega)⟩
    obtain ⟨p, hp⟩ : ∃ p, psA[i]? = some p := ⟨_, List.getElem?_eq_getElem (by omega)⟩
    refine join_in (vs := []) (drew_ok fun w5 F5 z5 => ?_)
    have G5 := G4.tr F5
    have hc : ∀ w', Fr noB w w' → Calls Tryz.prog 79 _ w' (PartP w w' (find nsB psB (bl (bs x)))) := fun w' F => rpart13_ok (bs x) hv2 F hlb
    rw [bl_bs] at hc
    generalize hf : find nsB psB x = r at hc
    refine (C2.fr G5 (fun h => h)).ldV ((B2.fr G5 (fun h => h)).ldS (o := 3) rfl (str_ldA (hns.fr (F12.tr G5)) hx fun a ha => both_ok ?_ ?_))
    ·refine callPart_ok (hc w5 (F12.tr G5)) fun k1 o1 n1 ns1 ps1 w6 F6 hr => ?_
     have G6 := G5.tr F6
     refine keep_cons ((B2.fr G6 (fun h => h)).held1 rfl) (keep_nil (new_ok fun w7 m hm hs7 M7 F7 => ?_))
     have G7 := G6.tr F7
     have hm2 : w2.heap.size ≤ m := by have := G6.size; omega
     refine keep_cons (held_one ((F6.tr F7).cell ha (fun h => h))) (keep_cons ((B2.fr G7 (fun h => h)).held1 rfl) (keep_cons (C2.fr G7 (fun h => h)).heldV (keep_nil ?_)))
     refine fill_ok M7 rfl rfl rfl rfl rfl rfl fun w8 M8 F8 => ?_
     change Blk w8 m _ (shCells k1 o1 n1 ns1 ps1) at M8
     have G8 := G7.fill hm2 F8
     refine join1_ok (c := .bool) (fun (b : Bool) w9 => b = !(r.any (fun q => nearF d p q)) ∧ Fr noB w2 w9) (fun kj hkj => drew_ok fun w9 F9 z9 => ?_) ?_
     ·have G9 := G8.tr F9
      cases r with
      | none => exact ite_yes rfl (hkj _ _ ⟨rfl, G9⟩)
      | some q =>
       have hq := find_mem hf
       have hd1 := deep_mem hq
       refine ite_no rfl ?_
       refine (B2.fr G9 (fun h => h)).ldS (o := 4) rfl (part_ld (hps.fr (F12.tr G9)) hp hpn fun k3 o3 n3 ns3 ps3 hv3 => (M8.fr F9 (fun h => h)).ldV ?_)
       refine callB_ok (rnear_ok d p q (by have := deep_mem (List.mem_of_getElem? hp); omega) (by omega) (hfa p (List.mem_of_getElem? hp)) (hfb q hq) hv3 ((hr q rfl).fr (F12.tr G9))) fun w10 F10 => keep_cons ((B2.fr (G9.tr F10) (fun h => h)).held1 rfl) (keep_nil (hkj _ _ ⟨rfl, G9.tr F10⟩))
     rintro b w9 ⟨rfl, G9⟩
     refine ite_ok (fun hb => ⟨?_, F12.tr G9⟩) fun hb => hrec (by omega) _ ⟨fun j x' p' hj hx' hp' => ?_, G9⟩
     ·have hb : r.any (fun q => nearF d p q) = false := by simpa using hb
      refine congrArg (fun b => Ending.returned (.bool b)) (Eq.symm ?_)
      rw [hT, Bool.eq_false_iff]
      intro h
      obtain ⟨q, h1, h2⟩ := withinF_iff.1 h i x p hx hp
      rw [hf] at h1
      rw [h1] at hb
      change nearF d p q = false at hb
      rw [hb] at h2
      cases h2
     ·have hb : r.any (fun q => nearF d p q) = true := by simpa using hb
      rcases Nat.lt_succ_iff_lt_or_eq.1 hj with hj | rfl
      ·exact hdone j x' p' hj hx' hp'
      ·rw [hx] at hx'
       rw [hp] at hp'
       cases hx'
       cases hp'
       cases r with
       | none => cases hb
       | some q => exact ⟨q, hf, hb⟩
    ·refine new_ok fun w6 m hm hs7 M6 F6 => ?_
     have G6 := G5.tr F6
     have hm2 : w2.heap.size ≤ m := by have := G5.size; omega
     refine keep_cons (held_one (F6.cell ha (fun h => h))) (keep_cons ((B2.fr G6 (fun h => h)).held1 rfl) (keep_cons (C2.fr G6 (fun h => h)).heldV (keep_nil ?_)))
     refine callPart_ok (hc w6 (F12.tr G6)) fun k1 o1 n1 ns1 ps1 w7 F7 hr => ?_
     have G7 := G6.tr F7
     refine keep_cons ((B2.fr G7 (fun h => h)).held1 rfl) (keep_nil ?_)
     refine fill_ok (M6.fr F7 (fun h => h)) rfl rfl rfl rfl rfl rfl fun w8 M8 F8 => ?_
     change Blk w8 m _ (shCells k1 o1 n1 ns1 ps1) at M8
     have G8 := G7.fill hm2 F8
     refine join1_ok (c := .bool) (fun (b : Bool) w9 => b = !(r.any (fun q => nearF d p q)) ∧ Fr noB w2 w9) (fun kj hkj => drew_ok fun w9 F9 z9 => ?_) ?_
     ·have G9 := G8.tr F9
      cases r with
      | none => exact ite_yes rfl (hkj _ _ ⟨rfl, G9⟩)
      | some q =>
       have hq := find_mem hf
       have hd1 := deep_mem hq
       refine ite_no rfl ?_
       refine (B2.fr G9 (fun h => h)).ldS (o := 4) rfl (part_ld (hps.fr (F12.tr G9)) hp hpn fun k3 o3 n3 ns3 ps3 hv3 => (M8.fr F9 (fun h => h)).ldV ?_)
       refine callB_ok (rnear_ok d p q (by have := deep_mem (List.mem_of_getElem? hp); omega) (by omega) (hfa p (List.mem_of_getElem? hp)) (hfb q hq) hv3 ((hr q rfl).fr (F12.tr G9))) fun w10 F10 => keep_cons ((B2.fr (G9.tr F10) (fun h => h)).held1 rfl) (keep_nil (hkj _ _ ⟨rfl, G9.tr F10⟩))
     rintro b w9 ⟨rfl, G9⟩
     refine ite_ok (fun hb => ⟨?_, F12.tr G9⟩) fun hb => hrec (by omega) _ ⟨fun j x' p' hj hx' hp' => ?_, G9⟩
     ·have hb : r.any (fun q => nearF d p q) = false := by simpa using hb
      refine congrArg (fun b => Ending.returned (.bool b)) (Eq.symm ?_)
      rw [hT, Bool.eq_false_iff]
      intro h
      obtain ⟨q, h1, h2⟩ := withinF_iff.1 h i x p hx hp
      rw [hf] at h1
      rw [h1] at hb
      change nearF d p q = false at hb
      rw [hb] at h2
      cases h2
     ·have hb : r.any (fun q => nearF d p q) = true := by simpa using hb
      rcases Nat.lt_succ_iff_lt_or_eq.1 hj with hj | rfl
      ·exact hdone j x' p' hj hx' hp'
      ·rw [hx] at hx'
       rw [hp] at hp'
       cases hx'
       cases hp'
       cases r with
       | none => cases hb
       | some q => exact ⟨q, hf, hb⟩
   ·have hge : ¬ (i : Int) < (ns.n : Int) := of_decide_eq_false hge
    have := (List.getElem?_eq_some_iff.1 hx).1
    exact hdone j x p (by omega) hx hp
theorem rBelow_ok {s s' : Shape} {w : World} {k : Int} {o n : ByteArray} {ns ps : Sl} {k2 : Int} {o2 n2 : ByteArray} {ns2 ps2 : Sl} (hv : ShV w k o n ns ps s) (hv2 : ShV w k2 o2 n2 ns2 ps2 s') :
  AnsB 24 #[shArg k o n ns ps, shArg k2 o2 n2 ns2 ps2] w (isBelow s s') := by
 apply c24
 unfold t24 shZ ld5mZ nw5Z caBZ caIZ jnBZ
 refine new_ok fun w1 m10 hm10 hs1 B1 F1 => new_ok fun w2 m11 hm11 hs2 C2 F2 => ?_
 have B2 := B1.fr F2 (fun h => h)
 change Blk w2 m10 _ (shCells k o n ns ps) at B2
 change Blk w2 m11 _ (shCells k2 o2 n2 ns2 ps2) at C2
 have F12 := F1.tr F2
 clear B1
 refine join1_ok (c := .bool) (fun (b : Bool) w' => b = isBelow s s' ∧ Fr noB w w') (fun kj hkj => ?_) (fun b w' h => done_b h)
 refine B2.ldV (callI_ok (rCheckS_ok (hv.fr F12)) fun w3 F3 => ?_)
 have hsp : isBelow s s' = (check s == 0 && check s' == 0 && below s s') := rfl
 refine ite_ok (fun h1 => ?_) fun h1 => hkj _ _ ⟨?_, F12.tr F3⟩
 ·have h1 : check s = 0 := nat0 h1
  refine (C2.fr F3 (fun h => h)).ldV (callI_ok (rCheckS_ok (hv2.fr (F12.tr F3))) fun w4 F4 => ?_)
  have F14 := (F12.tr F3).tr F4
  refine ite_ok (fun h2 => ?_) fun h2 => hkj _ _ ⟨?_, F14⟩
  ·have h2 : check s' = 0 := nat0 h2
   obtain ⟨_, _, fa⟩ := check_ok.1 h1
   obtain ⟨_, _, fb⟩ := check_ok.1 h2
   refine (B2.fr (F3.tr F4) (fun h => h)).ldV ((C2.fr (F3.tr F4) (fun h => h)).ldV (callB_ok (runder_ok (max (deep s) (deep s')) s s' (Nat.le_max_left _ _) (Nat.le_max_right _ _) fa fb (hv.fr F14) (hv2.fr F14)) fun w5 F5 => hkj _ _ ⟨?_, F14.tr F5⟩))
   rw [hsp, h1, h2]
   rfl
  ·have h2 : (check s' == 0) = false := by
    rw [beq_eq_false_iff_ne]
    intro e
    rw [e] at h2
    cases h2
   rw [hsp, h2, Bool.and_false]
   rfl
 ·have h1 : (check s == 0) = false := by
   rw [beq_eq_false_iff_ne]
   intro e
   rw [e] at h1
   cases h1
  rw [hsp, h1]
  rfl
theorem rNear_ok {s s' : Shape} {w : World} {k : Int} {o n : ByteArray} {ns ps : Sl} {k2 : Int} {o2 n2 : ByteArray} {ns2 ps2 : Sl} (hv : ShV w k o n ns ps s) (hv2 : ShV w k2 o2 n2 ns2 ps2 s') :
  AnsB 25 #[shArg k o n ns ps, shArg k2 o2 n2 ns2 ps2] w (isNear s s') := by
 apply c25
 unfold t25 shZ ld5mZ nw5Z caBZ caIZ jnBZ
 refine new_ok fun w1 m10 hm10 hs1 B1 F1 => new_ok fun w2 m11 hm11 hs2 C2 F2 => ?_
 have B2 := B1.fr F2 (fun h => h)
 change Blk w2 m10 _ (shCells k o n ns ps) at B2
 change Blk w2 m11 _ (shCells k2 o2 n2 ns2 ps2) at C2
 have F12 := F1.tr F2
 clear B1
 refine join1_ok (c := .bool) (fun (b : Bool) w' => b = isNear s s' ∧ Fr noB w w') (fun kj hkj => ?_) (fun b w' h => done_b h)
 refine B2.ldV (callI_ok (rCheckS_ok (hv.fr F12)) fun w3 F3 => ?_)
 have hsp : isNear s s' = (check s == 0 && check s' == 0 && near s s') := rfl
 refine ite_ok (fun h1 => ?_) fun h1 => hkj _ _ ⟨?_, F12.tr F3⟩
 ·have h1 : check s = 0 := nat0 h1
  refine (C2.fr F3 (fun h => h)).ldV (callI_ok (rCheckS_ok (hv2.fr (F12.tr F3))) fun w4 F4 => ?_)
  have F14 := (F12.tr F3).tr F4
  refine ite_ok (fun h2 => ?_) fun h2 => hkj _ _ ⟨?_, F14⟩
  ·have h2 : check s' = 0 := nat0 h2
   obtain ⟨_, _, fa⟩ := check_ok.1 h1
   obtain ⟨_, _, fb⟩ := check_ok.1 h2
   refine (B2.fr (F3.tr F4) (fun h => h)).ldV ((C2.fr (F3.tr F4) (fun h => h)).ldV (callB_ok (rnear_ok (max (deep s) (deep s')) s s' (Nat.le_max_left _ _) (Nat.le_max_right _ _) fa fb (hv.fr F14) (hv2.fr F14)) fun w5 F5 => hkj _ _ ⟨?_, F14.tr F5⟩))
   rw [hsp, h1, h2]
   rfl
  ·have h2 : (check s' == 0) = false := by
    rw [beq_eq_false_iff_ne]
    intro e
    rw [e] at h2
    cases h2
   rw [hsp, h2, Bool.and_false]
   rfl
 ·have h1 : (check s == 0) = false := by
   rw [beq_eq_false_iff_ne]
   intro e
   rw [e] at h1
   cases h1
  rw [hsp, h1]
  rfl
end Go.Proofs.YticokfpaoiekgaaGreatDoor
end
