/- The law behind: one part of its proof (joined by program out of my own texts). No condition. -/
import Derived.Test.YtngfnokbdcjoeaaGreatDoorValAV
section
namespace Go.Proofs.YtngfnokbdcjoeaaGreatDoor
open Go.Lift Go.Lex Go.Shp
def FieldP (w0 w : World) (r : Option Shape) (e : Ending) (w' : World) : Prop := ∃ (k z : Int) (o n : ByteArray) (ns ps : Sl), e = .returned (.tuple #[vaArg k z o n ns ps, .bool r.isSome]) ∧ Fr noB w w' ∧ ∀ q, r = some q → VaV w0 k z o n ns ps q
theorem vfield_ok {w0 w : World} {k z : Int} {o n : ByteArray} {ns ps : Sl} {s : Shape} (x : ByteArray) (hv : VaV w0 k z o n ns ps s) (F0 : Fr noB w0 w) (hlen : s.names.length = s.parts.length) : Calls Tryz.prog 61 #[vaArg k z o n ns ps, .string x] w (FieldP w0 w (find s.names s.parts (bl x))) := by
 obtain ⟨_, _, _, ⟨_, hns, hnl, hpn, hpl, _⟩, hps⟩ := hv.parts
 have hnn := hns.1
 rw [List.length_map] at hnn
 apply c61
 unfold t61 wrZ ldSZ ldLZ ld6mZ ld6xZ st6Z nw6Z nz6Z jn0Z lpIZ ixZ
 refine new_ok fun w1 m6 hm6 hs1 B1 F1 => new_ok fun w2 m7 hm7 hs2 C2 F2 => ?_
 have B2 := B1.fr F2 (fun h => h)
 change Blk w2 m6 _ (vaCells k z o n ns ps) at B2
 have F12 := F1.tr F2
 have h67 : m6 ≠ m7 := by omega
 have hw7 : w.heap.size ≤ m7 := by omega
 refine join0_ok (fun w' => find s.names s.parts (bl x) = none ∧ Fr noB w2 w') (fun kend hkend => ?_) fun w3 ⟨hf, F3⟩ => ?_
 ·refine countL_ok s.names.length (by omega) (fun i w3 => (∀ j, j < i → s.names[j]? ≠ some (bl x)) ∧ Fr noB w2 w3) (fun rec i w3 hi hI hrec => ?_) ⟨fun j h => by omega, Fr.refl _ _⟩
  obtain ⟨hdone, F3⟩ := hI
  have B3 := B2.fr F3 (fun h => h)
  refine B3.ldS (o := 4) rfl (ite_ok (fun hlt => ?_) fun hge => hkend _ ⟨find_le fun j hj => ?_, F3⟩)
  ·have hlt : (i : Int) < (ns.n : Int) := of_decide_eq_true hlt
   obtain ⟨y, hy⟩ : ∃ y, s.names[i]? = some y := ⟨_, List.getElem?_eq_getElem (by omega)⟩
   obtain ⟨q, hq⟩ : ∃ q, s.parts[i]? = some q := ⟨_, List.getElem?_eq_getElem (by omega)⟩
   refine join_in (vs := []) (B3.ldS (o := 4) rfl (str_ld (hns.fr (F0.tr (F12.tr F3))) hy ?_))
   rw [eq_bl, bl_bs]
   refine ite_ok (fun he => ?_) fun hne => hrec (by omega) _ ⟨fun j hj => ?_, F3⟩
   ·have he : y = bl x := by simpa using he
    refine B3.ldS (o := 5) rfl (vpart_ld0 hps (F0.tr (F12.tr F3)) hq hpn fun k1 z1 o1 n1 ns1 ps1 hv1 => ?_)
    refine fill6_ok (C2.fr F3 (fun h => h)) rfl rfl rfl rfl rfl rfl rfl fun w4 C4 F4 => ?_
    change Blk w4 m7 _ (vaCells k1 z1 o1 n1 ns1 ps1) at C4
    have F24 : Fr noB w w4 := (F12.tr F3).fill hw7 F4
    refine C4.ldW ⟨k1, z1, o1, n1, ns1, ps1, ?_, F24, fun r hr => ?_⟩
    ·rw [find_first hdone (by rw [hy, he]) hq]
     rfl
    ·rw [find_first hdone (by rw [hy, he]) hq] at hr
     cases hr
     exact hv1
   ·have hne : y ≠ bl x := by simpa using hne
    rcases Nat.lt_succ_iff_lt_or_eq.1 hj with hj | rfl
    ·exact hdone j hj
    ·rw [hy]
     intro e
     exact hne (Option.some.inj e)
  ·have hge : ¬ (i : Int) < (ns.n : Int) := of_decide_eq_false hge
   have := (List.getElem?_eq_some_iff.1 hj).1
   exact hdone j (by omega) hj
 ·rw [hf]
  refine fill6_ok (C2.fr F3 (fun h => h)) rfl rfl rfl rfl rfl rfl rfl fun w4 C4 F4 => ?_
  change Blk w4 m7 _ (vaCells 0 0 (ByteArray.mk #[]) (ByteArray.mk #[]) ⟨none, 0, 0⟩ ⟨none, 0, 0⟩) at C4
  exact C4.ldW ⟨0, 0, ByteArray.mk #[], ByteArray.mk #[], ⟨none, 0, 0⟩, ⟨none, 0, 0⟩, rfl, (F12.tr F3).fill hw7 F4, fun q hq => by cases hq⟩
theorem callField_ok {w0 w : World} {R : Ending → World → Prop} {f : FuncId} {args : Array Value} {r : Option Shape} (hc : Calls Tryz.prog f args w (FieldP w0 w r)) {K : Int → Int → ByteArray → ByteArray → Sl → Sl → Bool → G}
  (h : ∀ k z o n ns ps w', Fr noB w w' → (∀ q, r = some q → VaV w0 k z o n ns ps q) → K k z o n ns ps r.isSome R w') : callG Tryz.prog f args [.agg [.int .i64, .int .i64, .str, .str, .slice, .slice], .one .bool] K R w :=
 call_ok hc fun _ w' ⟨k, z, o, n, ns, ps, he, F, hv⟩ => ⟨((k, z, o, n, ns, ps, ()), ((r.isSome, ()), ())), he, h k z o n ns ps w' F hv⟩
set_option maxHeartbeats 4000000 in
theorem vfits_ok : ∀ (d : Nat) (v s : Shape), deep v ≤ d → formed v = true → allFit s = true → ∀ {w : World} {k z : Int} {o n : ByteArray} {ns ps : Sl} {k2 : Int} {o2 n2 : ByteArray} {ns2 ps2 : Sl}, VaV w k z o n ns ps v → ShV w k2 o2 n2 ns2 ps2 s →
  AnsB 36 #[vaArg k z o n ns ps, shArg k2 o2 n2 ns2 ps2] w (vfitsF d v s)
 | 0, v, _, h, _, _, _, _, _, _, _, _, _, _, _, _, _, _, _, _ => by have := deep_pos v; omega
 | d + 1, .mk q oA nA nsA psA, .mk kB oB nB nsB psB, hd, hfo, hfi, w, k, z, o, n, ns, ps, k2, o2, n2, ns2, ps2, hv, hv2 => by
  rw [deep_mk] at hd
  obtain ⟨fa, pa⟩ := formed_parts hfo
  obtain ⟨fb, pb⟩ := allFit_parts hfi
  obtain ⟨ek, eo, en, ⟨⟨z1, z2⟩, hns, hnl, hpn, hpl, hos, hnz, hxl⟩, hps⟩ := hv.parts
  obtain ⟨ek2, eo2, en2, ⟨hns2, hnl2, hpn2, hpl2, hos2, hnz2, hxl2⟩, hps2⟩ := hv2.parts
  change q = vk k z at ek
  change bl o = oA at eo
  change bl n = nA at en
  change k2 = kB at ek2
  change bl o2 = oB at eo2
  change bl n2 = nB at en2
  change RdS w ns (nsA.map bs) at hns
  change RdS w ns2 (nsB.map bs) at hns2
  replace hnl : nsA.length < 4611686018427387904 := by change nsA.length * 16 ≤ 140737488351232 at hnl; omega
  change nsB.length < 4611686018427387904 at hnl2
  change ps.n = psA.length at hpn
  change ps2.n = psB.length at hpn2
  change psA.length < 4611686018427387904 at hpl
  change psB.length < 4611686018427387904 at hpl2
  change VaL w ps.a 0 psA at hps
  change ShL w ps2.a 0 psB at hps2
  have hkq : kOf q = k := by rw [ek, kOf_vk z1 z2]
  have hzq : zOf q = z := by rw [ek, zOf_vk z1 z2]
  have hkr := vform_kind fa
  have hnn2 := hns2.1
  rw [List.length_map] at hnn2
  apply c36
  unfold t36 wrZ tvZ svZ shZ ldIZ ldSZ ldLZ ld6mZ ld6xZ vaZ kf6Z st6Z nw6Z nz6Z ld5xZ nw5Z caBZ caZ jn0Z jnBZ lpIZ ixZ
  refine new_ok fun w1 m11 hm11 hs1 B1 F1 => new_ok fun w2 m12 hm12 hs2 C2 F2 => ?_
  have B2 := B1.fr F2 (fun h => h)
  change Blk w2 m11 _ (vaCells k z o n ns ps) at B2
  change Blk w2 m12 _ (shCells k2 o2 n2 ns2 ps2) at C2
  have F12 := F1.tr F2
  clear B1
  generalize hT : vfitsF (d + 1) (.mk q oA nA nsA psA) (.mk kB oB nB nsB psB) = T
  have done : ∀ {b : Bool} {w' : World}, b = T ∧ Fr noB w w' → retG (.bool b) (fun e w' => e = .returned (.bool T) ∧ Fr noB w w') w' := fun {b w'} ⟨h, F⟩ => ⟨by rw [h], F⟩
  have a0 : ∀ {K : Int → G} {R : Ending → World → Prop} {w' : World}, Fr noB w2 w' → K k R w' → ldG (.int .i64) ⟨m11, 0, none⟩ K R w' := fun F h => (B2.fr F (fun h => h)).ld (c := .int .i64) (o := 0) rfl h
  have a5 : ∀ {K : Sl → G} {R : Ending → World → Prop} {w' : World}, Fr noB w2 w' → K ps R w' → ldG .slice ⟨m11, 5, none⟩ K R w' := fun F h => (B2.fr F (fun h => h)).ldS (o := 5) rfl h
  have c4 : ∀ {K : Sl → G} {R : Ending → World → Prop} {w' : World}, Fr noB w2 w' → K ps2 R w' → ldG .slice ⟨m12, 4, none⟩ K R w' := fun F h => (C2.fr F (fun h => h)).ldS (o := 4) rfl h
  have R0 := Fr.refl noB w2
  have c0 : ∀ {K : Int → G} {R : Ending → World → Prop} {w' : World}, Fr noB w2 w' → K k2 R w' → ldG (.int .i64) ⟨m12, 0, none⟩ K R w' := fun F h => (C2.fr F (fun h => h)).ld (c := .int .i64) (o := 0) rfl h
  have c3 : ∀ {K : Sl → G} {R : Ending → World → Prop} {w' : World}, Fr noB w2 w' → K ns2 R w' → ldG .slice ⟨m12, 3, none⟩ K R w' := fun F h => (C2.fr F (fun h => h)).ldS (o := 3) rfl h
  have bd : ∀ {c : Int}, (k2 == c) = decide (kB = c) := fun {c} => by rw [ek2, Bool.eq_iff_iff, beq_iff_eq, decide_eq_true_eq]
  rw [vfitsF, hkq] at hT
  refine c0 R0 ?_
  rw [bd]
  refine ite_ok (fun h4 => ?_) fun h4 => a0 R0 ?_
  ·rw [if_pos (of_decide_eq_true h4)] at hT
   exact ⟨by rw [← hT], F12⟩
  have h4 : kB ≠ 4 := of_decide_eq_false h4
  rw [if_neg h4] at hT
  refine join0_ok (fun w' => w' = w2 ∧ k ≠ 1 ∧ k ≠ 2 ∧ k ≠ 3 ∧ k ≠ 7 ∧ k ≠ 8 ∧ k ≠ 4 ∧ k ≠ 6) (fun k15 hk15 => ?_) fun w' ⟨hw, hno⟩ => ?_
  ·refine ite_ok (fun h1 => c0 R0 ?_) fun h1 => ?_
   ·have h1 : k = 1 := by simpa using h1
    rw [if_pos h1, ← bd] at hT
    exact ⟨by rw [← hT], F12⟩
   have h1 : k ≠ 1 := by simpa using h1
   rw [if_neg h1] at hT
   refine ite_ok (fun h2 => c0 R0 ?_) fun h2 => ?_
   ·have h2 : k = 2 := by simpa using h2
    rw [if_pos h2, ← bd] at hT
    exact ⟨by rw [← hT], F12⟩
   have h2 : k ≠ 2 := by simpa using h2
   rw [if_neg h2] at hT
   refine ite_ok (fun h3 => c0 R0 ?_) fun h3 => ?_
   ·have h3 : k = 3 := by simpa using h3
    rw [if_pos h3, ← bd] at hT
    exact ⟨by rw [← hT], F12⟩
   have h3 : k ≠ 3 := by simpa using h3
   rw [if_neg h3] at hT
   refine ite_ok (fun h7 => ?_) fun h7 => ?_
   ·have h7 : k = 7 := by simpa using h7
    rw [if_pos h7] at hT
    refine join1_ok (c := .bool) (fun (b : Bool) w' => b = T ∧ Fr noB w w') (fun kj hkj => c0 R0 ?_) fun b w' h => done h
    rw [bd]
    refine ite_ok (fun g => C2.ld (c := .str) (x := o2) (o := 1) rfl (B2.ld (c := .str) (x := o) (o := 2) rfl ?_)) fun g => hkj _ _ ⟨by rw [← hT, g]; rfl, F12⟩
    rw [eq_bl, eo, eo2]
    refine ite_ok (fun g2 => C2.ld (c := .str) (x := n2) (o := 2) rfl (B2.ld (c := .str) (x := n) (o := 3) rfl (hkj _ _ ⟨?_, F12⟩))) fun g2 => hkj _ _ ⟨by rw [← hT, g, g2]; rfl, F12⟩
    rw [eq_bl, en, en2, ← hT, g, g2]
    rfl
   have h7 : k ≠ 7 := by simpa using h7
   rw [if_neg h7] at hT
   refine ite_ok (fun h8 => ?_) fun h8 => ?_
   ·have h8 : k = 8 := by simpa using h8
    rw [if_pos h8, hzq] at hT
    have hz8 := (form8 fa (hkq.trans h8)).2.2.2.2
    rw [hzq] at hz8
    refine join1_ok (c := .bool) (fun (b : Bool) w' => b = T ∧ Fr noB w w') (fun kj hkj => c0 R0 ?_) fun b w' h => done h
    rw [bd]
    refine ite_ok (fun g => c4 R0 (B2.ld (c := .int .i64) (x := z) (o := 1) rfl (hkj _ _ ⟨?_, F12⟩))) fun g => hkj _ _ ⟨by rw [← hT, g]; rfl, F12⟩
    rw [← hT, g, Bool.true_and, wrap_ok (by omega) (by omega), hpn2, Bool.eq_iff_iff, beq_iff_eq, decide_eq_true_eq]
   have h8 : k ≠ 8 := by simpa using h8
   rw [if_neg h8] at hT
   refine ite_ok (fun g4 => ?_) fun g4 => ?_
   ·have g4 : k = 4 := by simpa using g4
    rw [if_pos g4] at hT
    refine join0_ok (fun w' => (kB = 5 → vlist (vfitsF d) psB psA = true) ∧ Fr noB w2 w') (fun k31 hk31 => ?_) fun w' ⟨h, F⟩ => c0 F ?_
    rotate_left
    ·rw [bd]
     refine ⟨?_, F12.tr F⟩
     rw [← hT]
     by_cases h5 : kB = 5
     ·rw [decide_eq_true h5, h h5]
      rfl
     ·rw [decide_eq_false h5]
      rfl
    refine countL_ok psA.length (by omega) (fun i w' => (kB = 5 → ∀ (j : Nat) x p, j < i → psA[j]? = some x → psB[0]? = some p → vfitsF d x p = true) ∧ Fr noB w2 w') (fun rec i w3 hi hI hrec => ?_) ⟨fun _ j x p h => by omega, Fr.refl _ _⟩
    obtain ⟨hdone, F3⟩ := hI
    refine join1_ok (c := .bool) (fun (b : Bool) w' => b = (decide (kB = 5) && decide (i < psA.length)) ∧ w' = w3) (fun kj hkj => c0 F3 ?_) fun b w' ⟨hb, hw⟩ => ?_
    ·rw [bd]
     refine ite_ok (fun g => a5 F3 (hkj _ _ ⟨?_, rfl⟩)) fun g => hkj _ _ ⟨by rw [g]; rfl, rfl⟩
     rw [g, Bool.true_and, Bool.eq_iff_iff, decide_eq_true_eq, decide_eq_true_eq]
     omega
    replace hw := hw.symm
    subst hw
    have G3 := F12.tr F3
    refine ite_ok (fun g => ?_) fun g => hk31 _ ⟨fun h5 => ?_, F3⟩
    ·rw [hb, Bool.and_eq_true, decide_eq_true_eq, decide_eq_true_eq] at g
     obtain ⟨h5, hlt⟩ := g
     obtain ⟨p0, hp0⟩ : ∃ p, psB = [p] := by subst h5; exact fits_list fb
     obtain ⟨x, hx⟩ : ∃ x, psA[i]? = some x := ⟨_, List.getElem?_eq_getElem hlt⟩
     have hxm := List.mem_of_getElem? hx
     have hds := deep_mem hxm
     refine join0_ok (fun w' => vfitsF d x p0 = true ∧ Fr noB w2 w') (fun k38 hk38 => drew_ok fun w4 F4 z4 => a5 (F3.tr F4) ?_) fun w' ⟨h, F⟩ => hrec hlt _ ⟨fun _ j y p hj hy hp => ?_, F⟩
     rotate_left
     ·rw [hp0] at hp
      cases hp
      rcases Nat.lt_succ_iff_lt_or_eq.1 hj with hj | rfl
      ·exact hdone h5 j y p0 hj hy (by rw [hp0]; rfl)
      ·rw [hx] at hy
       cases hy
       exact h
     have F34 := F3.tr F4
     refine vpart_ld (hps.fr (F12.tr F34)) hx hpn fun k3 z3 o3 n3 ns3 ps3 hv3 => c4 F34 (part_ld (i := 0) (hps2.fr (F12.tr F34)) (by rw [hp0]; rfl) hpn2 fun k4 o4 n4 ns4 ps4 hv4 => ?_)
     refine callB_ok (vfits_ok d x p0 (by omega) (pa x hxm) (pb p0 (by rw [hp0]; simp)) hv3 hv4) fun w5 F5 => ?_
     have B5 := B2.fr (F34.tr F5) (fun h => h)
     have C5 := C2.fr (F34.tr F5) (fun h => h)
     refine keep_cons (C5.held1 (o := 4) rfl) (keep_cons (B5.held1 (o := 5) rfl) (keep_nil ?_))
     by_cases hf : vfitsF d x p0 = true
     ·exact ite_no (by rw [hf]; rfl) (hk38 _ ⟨hf, F34.tr F5⟩)
     ·have hf : vfitsF d x p0 = false := by simpa using hf
      refine ite_yes (by rw [hf]; rfl) ⟨?_, F12.tr (F34.tr F5)⟩
      rw [← hT, decide_eq_true h5, hp0]
      have : vlist (vfitsF d) [p0] psA = false := by
       unfold vlist
       rw [List.all_eq_false]
       exact ⟨x, hxm, by rw [hf]; exact Bool.false_ne_true⟩
      rw [this]
      rfl
    ·rw [hb] at g
     obtain ⟨p0, hp0⟩ : ∃ p, psB = [p] := by subst h5; exact fits_list fb
     rw [decide_eq_true h5, Bool.true_and] at g
     have g := of_decide_eq_false g
     rw [hp0]
     show psA.all _ = true
     rw [List.all_eq_true]
     intro x hx
     obtain ⟨j, hj⟩ := List.mem_iff_getElem?.1 hx
     have := (List.getElem?_eq_some_iff.1 hj).1
     exact hdone h5 j x p0 (by omega) hj (by rw [hp0]; rfl)
   have g4 : k ≠ 4 := by simpa using g4
   rw [if_neg g4] at hT
   refine ite_ok (fun h6 => ?_) fun h6 => hk15 _ ⟨rfl, h1, h2, h3, h7, h8, g4, by simpa using h6⟩
   have h6 : k = 6 := by simpa using h6
   rw [if_pos h6] at hT
   have hl1 := (form6 fa (hkq.trans h6)).2.2.2.2
   obtain ⟨x0, hx0⟩ : ∃ x, psA = [x] := by
    match psA, hl1 with
    | [x], _ => exact ⟨x, rfl⟩
   have hdx := deep_mem (show x0 ∈ psA by rw [hx0]; simp)
   refine join0_ok (fun w' => (kB = 7 → find nsB psB nA = none) ∧ Fr noB w2 w') (fun k56 hk56 => ?_) fun w' ⟨h, F⟩ => ⟨?_, F12.tr F⟩
   rotate_left
   ·rw [← hT]
    by_cases h7' : kB = 7
    ·unfold vcase
     rw [h h7', Bool.and_false]
    ·rw [decide_eq_false h7']
     rfl
   refine countL_ok nsB.length (by omega) (fun i w' => (kB = 7 → ∀ j, j < i → nsB[j]? ≠ some nA) ∧ Fr noB w2 w') (fun rec i w3 hi hI hrec => ?_) ⟨fun _ j h => by omega, Fr.refl _ _⟩
   obtain ⟨hdone, F3⟩ := hI
   refine join1_ok (c := .bool) (fun (b : Bool) w' => b = (decide (kB = 7) && decide (i < nsB.length)) ∧ w' = w3) (fun kj hkj => c0 F3 ?_) fun b w' ⟨hb, hw⟩ => ?_
   ·rw [bd]
    refine ite_ok (fun g => c3 F3 (hkj _ _ ⟨?_, rfl⟩)) fun g => hkj _ _ ⟨by rw [g]; rfl, rfl⟩
    rw [g, Bool.true_and, Bool.eq_iff_iff, decide_eq_true_eq, decide_eq_true_eq]
    omega
   replace hw := hw.symm
   subst hw
   refine ite_ok (fun g => ?_) fun g => hk56 _ ⟨fun h7' => find_le fun j hj => ?_, F3⟩
   ·rw [hb, Bool.and_eq_true, decide_eq_true_eq, decide_eq_true_eq] at g
    obtain ⟨h7', hlt⟩ := g
    obtain ⟨ln2, nd2⟩ := fits_named fb (.inr h7')
    obtain ⟨m, hm⟩ : ∃ m, nsB[i]? = some m := ⟨_, List.getElem?_eq_getElem hlt⟩
    obtain ⟨p, hp⟩ : ∃ p, psB[i]? = some p := ⟨_, List.getElem?_eq_getElem (by omega)⟩
    refine join0_ok (fun w' => m ≠ nA ∧ Fr noB w2 w') (fun k63 hk63 => drew_ok fun w4 F4 z4 => c3 (F3.tr F4) (str_ld (hns2.fr (F12.tr (F3.tr F4))) hm ((B2.fr (F3.tr F4) (fun h => h)).ld (c := .str) (x := n) (o := 3) rfl ?_))) fun w' ⟨h, F⟩ => hrec hlt _ ⟨fun _ j hj => ?_, F⟩
    rotate_left
    ·rcases Nat.lt_succ_iff_lt_or_eq.1 hj with hj | rfl
     ·exact hdone h7' j hj
     ·rw [hm]
      intro e
      exact h (Option.some.inj e)
    rw [eq_bl, bl_bs, en]
    refine ite_ok (fun he => drew_ok fun w5 F5 z5 => ?_) fun he => hk63 _ ⟨by simpa using he, F3.tr F4⟩
    have he : m = nA := by simpa using he
    subst he
    have F35 := (F3.tr F4).tr F5
    have hf : find nsB psB m = some p := (find_iff nd2).2 ⟨i, hm, hp⟩
    refine a5 F35 (vpart_ld (i := 0) (hps.fr (F12.tr F35)) (by rw [hx0]; rfl) hpn fun k3 z3 o3 n3 ns3 ps3 hv3 => c4 F35 (part_ld (hps2.fr (F12.tr F35)) hp hpn2 fun k4 o4 n4 ns4 ps4 hv4 => ?_))
    refine callB_ok (vfits_ok d x0 p (by omega) (pa x0 (by rw [hx0]; simp)) (pb p (List.mem_of_getElem? hp)) hv3 hv4) fun w6 F6 => ?_
    have B6 := B2.fr (F35.tr F6) (fun h => h)
    have C6 := C2.fr (F35.tr F6) (fun h => h)
    refine keep_cons (C6.held1 (o := 4) rfl) (keep_cons (B6.held1 (o := 5) rfl) (keep_nil ⟨?_, F12.tr (F35.tr F6)⟩))
    rw [← hT, decide_eq_true h7']
    unfold vcase
    rw [hf, hx0]
    rfl
   ·rw [hb, decide_eq_true h7', Bool.true_and] at g
    have g := of_decide_eq_false g
    have := (List.getElem?_eq_some_iff.1 hj).1
    exact hdone h7' j (by omega) hj
  obtain ⟨h1, h2, h3, h7, h8, g4, h6⟩ := hno
  replace hw := hw.symm
  subst hw
  rw [if_neg h1, if_neg h2, if_neg h3, if_neg h7, if_neg h8, if_neg g4, if_neg h6] at hT
  have hk5 : kOf q = 5 := by omega
  obtain ⟨_, _, _, ln, hnames, nd⟩ := form5 fa hk5
  refine join0_ok (fun w' => (kB = 6 → withinF (fun p x => vfitsF d x p) nsB psB nsA psA = true) ∧ Fr noB w2 w') (fun k84 hk84 => ?_) fun w' ⟨h, F⟩ => c0 F ?_
  rotate_left
  ·rw [bd]
   refine ⟨?_, F12.tr F⟩
   rw [← hT]
   by_cases h5 : kB = 6
   ·rw [decide_eq_true h5, h h5]
    rfl
   ·rw [decide_eq_false h5]
    rfl
  refine countL_ok nsB.length (by omega) (fun i w' => (kB = 6 → ∀ (j : Nat) (m : B) (p : Shape), j < i → nsB[j]? = some m → psB[j]? = some p → ∃ x, find nsA psA m = some x ∧ vfitsF d x p = true) ∧ Fr noB w2 w') (fun rec i w3 hi hI hrec => ?_) ⟨fun _ j m p h => by omega, Fr.refl _ _⟩
  obtain ⟨hdone, F3⟩ := hI
  refine join1_ok (c := .bool) (fun (b : Bool) w' => b = (decide (kB = 6) && decide (i < nsB.length)) ∧ w' = w3) (fun kj hkj => c0 F3 ?_) fun b w' ⟨hb, hw⟩ => ?_
  ·rw [bd]
   refine ite_ok (fun g => c3 F3 (hkj _ _ ⟨?_, rfl⟩)) fun g => hkj _ _ ⟨by rw [g]; rfl, rfl⟩
   rw [g, Bool.true_and, Bool.eq_iff_iff, decide_eq_true_eq, decide_eq_true_eq]
   omega
  replace hw := hw.symm
  subst hw
  refine ite_ok (fun g => ?_) fun g => hk84 _ ⟨fun h6' => withinF_iff.2 fun j m p q1 q2 => ?_, F3⟩
  rotate_left
  ·rw [hb, decide_eq_true h6', Bool.true_and] at g
   have g := of_decide_eq_false g
   have := (List.getElem?_eq_some_iff.1 q1).1
   exact hdone h6' j m p (by omega) q1 q2
  rw [hb, Bool.and_eq_true, decide_eq_true_eq, decide_eq_true_eq] at g
  obtain ⟨h6', hlt⟩ := g
  rw [decide_eq_true h6', Bool.true_and] at hT
  obtain ⟨ln2, nd2⟩ := fits_named fb (.inl h6')
  obtain ⟨m, hm⟩ : ∃ m, nsB[i]? = some m := ⟨_, List.getElem?_eq_getElem hlt⟩
  obtain ⟨p, hp⟩ : ∃ p, psB[i]? = some p := ⟨_, List.getElem?_eq_getElem (by omega)⟩
  have hbad : (∀ y, find nsA psA m = some y → vfitsF d y p = false) → withinF (fun p x => vfitsF d x p) nsB psB nsA psA = false := fun hy => by
   rw [Bool.eq_false_iff]
   intro h
   obtain ⟨y, h1, h2⟩ := withinF_iff.1 h i m p hm hp
   rw [hy y h1] at h2
   cases h2
  refine join0_ok (fun w' => (∃ x, find nsA psA m = some x ∧ vfitsF d x p = true) ∧ Fr noB w2 w') (fun k91 hk91 => ?_) fun w' ⟨hx, F⟩ => hrec hlt _ ⟨fun _ j m' p' hj q1 q2 => ?_, F⟩
  rotate_left
  ·rcases Nat.lt_succ_iff_lt_or_eq.1 hj with hj | rfl
   ·exact hdone h6' j m' p' hj q1 q2
   ·rw [hm] at q1
    rw [hp] at q2
    cases q1
    cases q2
    exact hx
  refine drew_ok fun w4 F4 z4 => (B2.fr (F3.tr F4) (fun h => h)).ldW (c3 (F3.tr F4) (str_ldA (s := ns2) (hns2.fr (F12.tr (F3.tr F4))) hm fun a99 ha99 => ?_))
  have F34 := F3.tr F4
  have G4 := F12.tr F34
  have fB : ∀ w', Fr noB w4 w' → Held w' (⟨m11, 0, none⟩, [.int .i64 k, .int .i64 z, .string o, .string n, .slice ns.a ns.n ns.c, .slice ps.a ps.n ps.c]) := fun w' F => (B2.fr (F34.tr F) (fun h => h)).heldW
  have fC : ∀ w', Fr noB w4 w' → Held w' (⟨m12, 3, none⟩, [.slice ns2.a ns2.n ns2.c]) := fun w' F => (C2.fr (F34.tr F) (fun h => h)).held1 (o := 3) rfl
  have fA : ∀ w', Fr noB w4 w' → Held w' (a99, [.string (bs m)]) := fun w' F => held_one (F.cell ha99 (fun h => h))
  have rest : ∀ {m8 : Nat} {U : TypeId} {k3 z3 : Int} {o3 n3 : ByteArray} {ns3 ps3 : Sl} {w6 : World}, Fr noB w4 w6 → Blk w6 m8 U (vaCells k3 z3 o3 n3 ns3 ps3) → (∀ y, find nsA psA m = some y → VaV w4 k3 z3 o3 n3 ns3 ps3 y) →
    joinG [.one .bool] (fun kj => drewG (iteG (!(find nsA psA m).isSome) (kj true) (ldG (.int .i64) ⟨m8, 0, none⟩ (fun (k : Int) => ldG (.int .i64) ⟨m8, 1, none⟩ (fun (z : Int) => ldG .str ⟨m8, 2, none⟩ (fun (o : ByteArray) => ldG .str ⟨m8, 3, none⟩ (fun (n : ByteArray) => ldG .slice ⟨m8, 4, none⟩ (fun (ns : Sl) => ldG .slice ⟨m8, 5, none⟩ (fun (ps : Sl) =>
     ldG .slice ⟨m12, 4, none⟩ (fun (l : Sl) => idxG l.a l.n (i : Int) 5 (fun (x : Addr) => ldG (.int .i64) (x.add 0) (fun (k' : Int) => ldG .str (x.add 1) (fun (o' : ByteArray) => ldG .str (x.add 2) (fun (n' : ByteArray) => ldG .slice (x.add 3) (fun (ns' : Sl) => ldG .slice (x.add 4) (fun (ps' : Sl) =>
      callG Tryz.prog 36 #[vaArg k z o n ns ps, shArg k' o' n' ns' ps'] [.one .bool] (fun (b : Bool) => keepG [(⟨m12, 4, none⟩, [.slice l.a l.n l.c])] (kj (!b))))))))))))))))))) (fun (b : Bool) => iteG b (retG (.bool false)) k91) (fun e w' => e = .returned (.bool T) ∧ Fr noB w w') w6 := by
   intro m8 U k3 z3 o3 n3 ns3 ps3 w6 F46 D6 hy
   have F26 := F34.tr F46
   refine join1_ok (c := .bool) (fun (b : Bool) w' => (b = true → withinF (fun p x => vfitsF d x p) nsB psB nsA psA = false) ∧ (b = false → ∃ x, find nsA psA m = some x ∧ vfitsF d x p = true) ∧ Fr noB w2 w') (fun kj hkj => drew_ok fun w7 F7 z7 => ?_) fun b w' ⟨hb1, hb2, F⟩ => ite_ok (fun h => ⟨by rw [← hT, hb1 h], F12.tr F⟩) fun h => hk91 _ ⟨hb2 h, F⟩
   have F27 := F26.tr F7
   cases hf : find nsA psA m with
   | none => exact ite_yes rfl (hkj _ _ ⟨fun _ => hbad fun y h => (by rw [hf] at h; cases h), fun h => (by cases h), F27⟩)
   | some x =>
    have hxm := find_mem hf
    have hdx := deep_mem hxm
    refine ite_no rfl ((D6.fr F7 (fun h => h)).ldW (c4 F27 (part_ld (hps2.fr (F12.tr F27)) hp hpn2 fun k4 o4 n4 ns4 ps4 hv4 => ?_)))
    refine callB_ok (vfits_ok d x p (by omega) (pa x hxm) (pb p (List.mem_of_getElem? hp)) ((hy x hf).fr (F46.tr F7)) hv4) fun w8 F8 => ?_
    refine keep_cons ((C2.fr (F27.tr F8) (fun h => h)).held1 (o := 4) rfl) (keep_nil (hkj _ _ ⟨fun h => hbad fun y hy => ?_, fun h => ⟨x, hf, by simpa using h⟩, F27.tr F8⟩))
    rw [hf] at hy
    cases hy
    simpa using h
  refine both_ok ?_ ?_
  ·refine callField_ok (vfield_ok (bs m) (hv.fr G4) (Fr.refl _ _) ln) fun k3 z3 o3 n3 ns3 ps3 w5 F5 hy => ?_
   rw [bl_bs] at hy
   refine Stay.go (w := w4) (by repeat (first | exact Stay.nil | refine Stay.cons (by assumption) ?_)) F5 (new_ok fun w6 m8 hm8 hs6 D6 F6 => ?_)
   refine Stay.go (w := w4) (by repeat (first | exact Stay.nil | refine Stay.cons (by assumption) ?_)) (F5.tr F6) (fill6_ok D6 rfl rfl rfl rfl rfl rfl rfl fun w7 D7 F7 => ?_)
   rw [bl_bs]
   exact rest ((F5.tr F6).fill (by have := F5.size; omega) F7) D7 hy
  ·refine new_ok fun w5 m8 hm8 hs5 D5 F5 => ?_
   refine Stay.go (w := w4) (by repeat (first | exact Stay.nil | refine Stay.cons (by assumption) ?_)) F5 ?_
   refine callField_ok (vfield_ok (bs m) (hv.fr G4) F5 ln) fun k3 z3 o3 n3 ns3 ps3 w6 F6 hy => ?_
   rw [bl_bs] at hy
   refine Stay.go (w := w4) (by repeat (first | exact Stay.nil | refine Stay.cons (by assumption) ?_)) (F5.tr F6) (fill6_ok (D5.fr F6 (fun h => h)) rfl rfl rfl rfl rfl rfl rfl fun w7 D7 F7 => ?_)
   rw [bl_bs]
   exact rest ((F5.tr F6).fill (by omega) F7) D7 hy
end Go.Proofs.YtngfnokbdcjoeaaGreatDoor
end
section
namespace Go.Proofs.YtngfnokbdcjoeaaGreatDoor
open Go.Lift Go.Lex Go.Shp
section
variable {w : World} {v s : Shape} {k z : Int} {o n : ByteArray} {ns ps : Sl} {k2 : Int} {o2 n2 : ByteArray} {ns2 ps2 : Sl}
set_option maxHeartbeats 2000000 in
theorem PFits_ok (hv : VaV w k z o n ns ps v) (hv2 : ShV w k2 o2 n2 ns2 ps2 s) :
  AnsB 19 #[vaArg k z o n ns ps, shArg k2 o2 n2 ns2 ps2] w (isFits v s) := by
 apply c19
 unfold t19 shZ ld5mZ ld6mZ vaZ nw6Z nw5Z caBZ caIZ jnBZ
 refine new_ok fun w1 m10 hm10 hs1 B1 F1 => new_ok fun w2 m11 hm11 hs2 C2 F2 => ?_
 have B2 := B1.fr F2 (fun h => h)
 change Blk w2 m10 _ (vaCells k z o n ns ps) at B2
 change Blk w2 m11 _ (shCells k2 o2 n2 ns2 ps2) at C2
 have F12 := F1.tr F2
 clear B1
 have hsp : isFits v s = (vcheck v == 0 && check s == 0 && vfits v s) := rfl
 refine join1_ok (c := .bool) (fun (b : Bool) w' => b = isFits v s ∧ Fr noB w w') (fun kj hkj => ?_) (fun b w' h => done_b h)
 refine B2.ldW (callI_ok (PCheck_ok (hv.fr F12)) fun w3 F3 => ?_)
 have G3 := F12.tr F3
 refine ite_ok (fun h1 => ?_) fun h1 => hkj _ _ ⟨?_, G3⟩
 ·have h1 : vcheck v = 0 := nat0 h1
  refine (C2.fr F3 (fun h => h)).ldV (callI_ok (scheck_ok scountC snamedC (hv2.fr G3)) fun w4 F4 => ?_)
  have G4 := G3.tr F4
  have H4 := F3.tr F4
  refine ite_ok (fun h2 => ?_) fun h2 => hkj _ _ ⟨?_, G4⟩
  ·have h2 : check s = 0 := nat0 h2
   obtain ⟨_, da, fa⟩ := vcheck_ok.1 h1
   obtain ⟨_, _, fb⟩ := check_ok.1 h2
   refine (B2.fr H4 (fun h => h)).ldW ((C2.fr H4 (fun h => h)).ldV (callB_ok (pfits_ok (deep v) v s (Nat.le_refl _) fa fb (hv.fr G4) (hv2.fr G4)) fun w5 F5 => hkj _ _ ⟨?_, G4.tr F5⟩))
   rw [hsp, h1, h2, vfitsF_vfits (Nat.le_refl _)]
   rfl
  ·have h2 : (check s == 0) = false := by
    rw [beq_eq_false_iff_ne]
    intro e
    rw [e] at h2
    cases h2
   rw [hsp, h2, Bool.and_false]
   rfl
 ·have h1 : (vcheck v == 0) = false := by
   rw [beq_eq_false_iff_ne]
   intro e
   rw [e] at h1
   cases h1
  rw [hsp, h1]
  rfl
set_option maxHeartbeats 2000000 in
theorem vFits_ok (hv : VaV w k z o n ns ps v) (hv2 : ShV w k2 o2 n2 ns2 ps2 s) :
  AnsB 20 #[vaArg k z o n ns ps, shArg k2 o2 n2 ns2 ps2] w (isFits v s) := by
 apply c20
 unfold t20 shZ ld5mZ ld6mZ vaZ nw6Z nw5Z caBZ caIZ jnBZ
 refine new_ok fun w1 m10 hm10 hs1 B1 F1 => new_ok fun w2 m11 hm11 hs2 C2 F2 => ?_
 have B2 := B1.fr F2 (fun h => h)
 change Blk w2 m10 _ (vaCells k z o n ns ps) at B2
 change Blk w2 m11 _ (shCells k2 o2 n2 ns2 ps2) at C2
 have F12 := F1.tr F2
 clear B1
 have hsp : isFits v s = (vcheck v == 0 && check s == 0 && vfits v s) := rfl
 refine join1_ok (c := .bool) (fun (b : Bool) w' => b = isFits v s ∧ Fr noB w w') (fun kj hkj => ?_) (fun b w' h => done_b h)
 refine B2.ldW (callI_ok (vCheckS_ok (hv.fr F12)) fun w3 F3 => ?_)
 have G3 := F12.tr F3
 refine ite_ok (fun h1 => ?_) fun h1 => hkj _ _ ⟨?_, G3⟩
 ·have h1 : vcheck v = 0 := nat0 h1
  refine (C2.fr F3 (fun h => h)).ldV (callI_ok (rCheckS_ok (hv2.fr G3)) fun w4 F4 => ?_)
  have G4 := G3.tr F4
  have H4 := F3.tr F4
  refine ite_ok (fun h2 => ?_) fun h2 => hkj _ _ ⟨?_, G4⟩
  ·have h2 : check s = 0 := nat0 h2
   obtain ⟨_, da, fa⟩ := vcheck_ok.1 h1
   obtain ⟨_, _, fb⟩ := check_ok.1 h2
   refine (B2.fr H4 (fun h => h)).ldW ((C2.fr H4 (fun h => h)).ldV (callB_ok (vfits_ok (deep v) v s (Nat.le_refl _) fa fb (hv.fr G4) (hv2.fr G4)) fun w5 F5 => hkj _ _ ⟨?_, G4.tr F5⟩))
   rw [hsp, h1, h2, vfitsF_vfits (Nat.le_refl _)]
   rfl
  ·have h2 : (check s == 0) = false := by
    rw [beq_eq_false_iff_ne]
    intro e
    rw [e] at h2
    cases h2
   rw [hsp, h2, Bool.and_false]
   rfl
 ·have h1 : (vcheck v == 0) = false := by
   rw [beq_eq_false_iff_ne]
   intro e
   rw [e] at h1
   cases h1
  rw [hsp, h1]
  rfl
end
end Go.Proofs.YtngfnokbdcjoeaaGreatDoor
end
