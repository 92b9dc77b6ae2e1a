/- The law behind: one part of its proof (joined by program out of my own texts). No condition. -/
import Derived.Test.YtngfnokbdcjoeaaGreatDoorValAT
section
namespace Go.Proofs.YtngfnokbdcjoeaaGreatDoor
open Go.Lift Go.Lex Go.Shp
theorem vequal_ok : ∀ (d : Nat) (s s' : Shape), size s ≤ d → ∀ {w : World} {k z : Int} {o n : ByteArray} {ns ps : Sl} {k2 z2 : Int} {o2 n2 : ByteArray} {ns2 ps2 : Sl}, VaV w k z o n ns ps s → VaV w k2 z2 o2 n2 ns2 ps2 s' →
  AnsB 14 #[vaArg k z o n ns ps, vaArg k2 z2 o2 n2 ns2 ps2] w (eqS s s')
 | 0, s, _, h, _, _, _, _, _, _, _, _, _, _, _, _, _, _, _ => by have := size_pos s; omega
 | d + 1, .mk kA oA nA nsA psA, .mk kB oB nB nsB psB, hd, w, k, z, o, n, ns, ps, k2, z2, o2, n2, ns2, ps2, hv, hv2 => by
  rw [size_mk] at hd
  obtain ⟨ek, eo, en, ⟨hz, hns, hnl, hpn, hpl, _⟩, hps⟩ := hv.parts
  obtain ⟨ek2, eo2, en2, ⟨hz2, hns2, hnl2, hpn2, hpl2, _⟩, hps2⟩ := hv2.parts
  change kA = vk k z at ek
  change bl o = oA at eo
  change bl n = nA at en
  change kB = vk k2 z2 at ek2
  change bl o2 = oB at eo2
  change bl n2 = nB at en2
  change RdS w ns (nsA.map bs) at hns
  change RdS w ns2 (nsB.map bs) at hns2
  replace hnl : nsA.length < 4611686018427387904 := by change nsA.length * 16 ≤ 140737488351232 at hnl; omega
  replace hnl2 : nsB.length < 4611686018427387904 := by change nsB.length * 16 ≤ 140737488351232 at hnl2; omega
  change ps.n = psA.length at hpn
  change ps2.n = psB.length at hpn2
  change psA.length < 4611686018427387904 at hpl
  change VaL w ps.a 0 psA at hps
  change VaL w ps2.a 0 psB at hps2
  have hnn := hns.1
  have hnn2 := hns2.1
  rw [List.length_map] at hnn hnn2
  have heq : eqS (.mk kA oA nA nsA psA) (.mk kB oB nB nsB psB) = (decide (kA = kB) && oA == oB && nA == nB && nsA == nsB && eqL psA psB) := by rw [eqS]
  apply c14
  unfold t14 wrZ svZ ldIZ ldSZ ldLZ ld6xZ vaZ nw6Z caBZ jn0Z jnBZ lpIZ ixZ
  refine new_ok fun w1 m10 hm10 hs1 B1 F1 => new_ok fun w2 m11 hm11 hs2 C2 F2 => ?_
  have B2 := B1.fr F2 (fun h => h)
  change Blk w2 m10 _ (vaCells k z o n ns ps) at B2
  change Blk w2 m11 _ (vaCells k2 z2 o2 n2 ns2 ps2) at C2
  have F12 := F1.tr F2
  clear B1
  refine join1_ok (c := .bool) (fun (b : Bool) w' => w' = w2 ∧ if b then eqS (.mk kA oA nA nsA psA) (.mk kB oB nB nsB psB) = false else (kA = kB ∧ oA = oB ∧ nA = nB ∧ nsA.length = nsB.length ∧ psA.length = psB.length)) (fun kj hkj => ?_) ?_
  ·refine B2.ld (c := .int .i64) (x := k) (o := 0) rfl (C2.ld (c := .int .i64) (x := k2) (o := 0) rfl (ite_ok (fun h1 => hkj _ _ ⟨rfl, ?_⟩) fun h1 => B2.ld (c := .int .i64) (x := z) (o := 1) rfl (C2.ld (c := .int .i64) (x := z2) (o := 1) rfl (ite_ok (fun h0 => hkj _ _ ⟨rfl, ?_⟩) fun h0 => ?_))))
   ·have h1 : kA ≠ kB := by
     rw [ek, ek2]
     intro e
     have := ((vk_inj hz.1 hz.2 hz2.1 hz2.2).1 e).1
     simp [this] at h1
    rw [if_pos rfl, heq, decide_eq_false h1]
    rfl
   ·have h1 : kA ≠ kB := by
     rw [ek, ek2]
     intro e
     have := ((vk_inj hz.1 hz.2 hz2.1 hz2.2).1 e).2
     simp [this] at h0
    rw [if_pos rfl, heq, decide_eq_false h1]
    rfl
   have h1 : kA = kB := by
    have a : k = k2 := by simpa using h1
    have b : z = z2 := by simpa using h0
    rw [ek, ek2, a, b]
   refine B2.ld (c := .str) (x := o) (o := 2) rfl (C2.ld (c := .str) (x := o2) (o := 2) rfl ?_)
   rw [eq_bl, eo, eo2]
   refine ite_ok (fun h2 => hkj _ _ ⟨rfl, ?_⟩) fun h2 => ?_
   ·have h2 : (oA == oB) = false := by simpa using h2
    rw [if_pos rfl, heq, h2, Bool.and_false]
    rfl
   have h2 : oA = oB := by simpa using h2
   refine B2.ld (c := .str) (x := n) (o := 3) rfl (C2.ld (c := .str) (x := n2) (o := 3) rfl ?_)
   rw [eq_bl, en, en2]
   refine ite_ok (fun h3 => hkj _ _ ⟨rfl, ?_⟩) fun h3 => ?_
   ·have h3 : (nA == nB) = false := by simpa using h3
    rw [if_pos rfl, heq, h3, Bool.and_false]
    rfl
   have h3 : nA = nB := by simpa using h3
   refine B2.ldS (o := 4) rfl (C2.ldS (o := 4) rfl (ite_ok (fun h4 => hkj _ _ ⟨rfl, ?_⟩) fun h4 => ?_))
   ·have h4 : ((ns.n : Nat) : Int) ≠ (ns2.n : Nat) := by simpa using h4
    have h4 : (nsA == nsB) = false := by
     rw [beq_eq_false_iff_ne]
     intro e
     rw [e] at hnn
     omega
    rw [if_pos rfl, heq, h4, Bool.and_false]
    rfl
   have h4 : ((ns.n : Nat) : Int) = (ns2.n : Nat) := by simpa using h4
   refine B2.ldS (o := 5) rfl (C2.ldS (o := 5) rfl (hkj _ _ ⟨rfl, ?_⟩))
   by_cases h5 : psA.length = psB.length
   ·rw [if_neg (by simp only [bne_iff_ne, ne_eq]; omega)]
    exact ⟨h1, h2, h3, by omega, h5⟩
   ·rw [if_pos (by simp only [bne_iff_ne, ne_eq]; omega), heq]
    have : eqL psA psB = false := by
     rw [Bool.eq_false_iff]
     intro h
     exact h5 (eqL_len h)
    rw [this, Bool.and_false]
  rintro b w' ⟨rfl, hb⟩
  refine ite_ok (fun h => ?_) fun h => ?_
  ·rw [h, if_pos rfl] at hb
   exact ⟨by rw [hb], F12⟩
  rw [h, if_neg (by simp)] at hb
  obtain ⟨h1, h2, h3, h4, h5⟩ := hb
  have heq2 : eqS (.mk kA oA nA nsA psA) (.mk kB oB nB nsB psB) = (nsA == nsB && eqL psA psB) := by
   rw [heq, h1, h2, h3]
   simp
  refine join0_ok (fun w3 => nsA = nsB ∧ Fr noB w' w3) (fun kend hkend => ?_) fun w3 ⟨hnm, F3⟩ => ?_
  ·refine countL_ok nsA.length (by omega) (fun i w3 => (∀ j, j < i → nsA[j]? = nsB[j]?) ∧ Fr noB w' w3) (fun rec i w3 hi hI hrec => ?_) ⟨fun j h => by omega, Fr.refl _ _⟩
   obtain ⟨hdone, F3⟩ := hI
   have B3 := B2.fr F3 (fun h => h)
   refine B3.ldS (o := 4) rfl (ite_ok (fun hlt => ?_) fun hge => hkend _ ⟨?_, F3⟩)
   ·have hlt : (i : Int) < (ns.n : Int) := of_decide_eq_true hlt
    obtain ⟨x, hx⟩ : ∃ x, nsA[i]? = some x := ⟨_, List.getElem?_eq_getElem (by omega)⟩
    obtain ⟨y, hy⟩ : ∃ y, nsB[i]? = some y := ⟨_, List.getElem?_eq_getElem (by omega)⟩
    refine join_in (vs := []) (drew_ok fun w4 F4 z4 => ?_)
    have F34 := F3.tr F4
    refine (B2.fr F34 (fun h => h)).ldS (o := 4) rfl (str_ld (hns.fr (F12.tr F34)) hx ((C2.fr F34 (fun h => h)).ldS (o := 4) rfl (str_ld (hns2.fr (F12.tr F34)) hy ?_)))
    rw [eq_bl, bl_bs, bl_bs]
    refine ite_ok (fun hne => ⟨?_, F12.tr F34⟩) fun he => hrec (by omega) _ ⟨fun j hj => ?_, F34⟩
    ·have hne : x ≠ y := by simpa using hne
     have : (nsA == nsB) = false := by
      rw [beq_eq_false_iff_ne]
      intro e
      rw [e, hy] at hx
      exact hne (Option.some.inj hx).symm
     rw [heq2, this]
     rfl
    ·have he : x = y := by simpa using he
     rcases Nat.lt_succ_iff_lt_or_eq.1 hj with hj | rfl
     ·exact hdone j hj
     ·rw [hx, hy, he]
   ·have hge : ¬ (i : Int) < (ns.n : Int) := of_decide_eq_false hge
    apply List.ext_getElem?
    intro j
    by_cases hj : j < i
    ·exact hdone j hj
    ·rw [List.getElem?_eq_none (by omega), List.getElem?_eq_none (by omega)]
  have F123 := F12.tr F3
  have B3 := B2.fr F3 (fun h => h)
  have C3 := C2.fr F3 (fun h => h)
  rw [hnm] at heq2
  have heq3 : eqS (.mk kA oA nA nsA psA) (.mk kB oB nB nsB psB) = eqL psA psB := by
   rw [hnm, heq2]
   simp
  refine join0_ok (fun w4 => eqL psA psB = true ∧ Fr noB w w4) (fun kend hkend => ?_) fun w4 ⟨hp, F4⟩ => ⟨by rw [heq3, hp], F4⟩
  refine countL_ok psA.length (by omega) (fun i w4 => (∀ (j : Nat) (a b : Shape), j < i → psA[j]? = some a → psB[j]? = some b → eqS a b = true) ∧ Fr noB w3 w4) (fun rec i w4 hi hI hrec => ?_) ⟨fun j a b h => by omega, Fr.refl _ _⟩
  obtain ⟨hdone, F4⟩ := hI
  have B4 := B3.fr F4 (fun h => h)
  refine B4.ldS (o := 5) rfl (ite_ok (fun hlt => ?_) fun hge => hkend _ ⟨eqL_of h5 fun j a b ha hb => ?_, F123.tr F4⟩)
  ·have hlt : (i : Int) < (ps.n : Int) := of_decide_eq_true hlt
   obtain ⟨x, hx⟩ : ∃ x, psA[i]? = some x := ⟨_, List.getElem?_eq_getElem (by omega)⟩
   obtain ⟨y, hy⟩ : ∃ y, psB[i]? = some y := ⟨_, List.getElem?_eq_getElem (by omega)⟩
   have hsz := size_mem (List.mem_of_getElem? hx)
   refine join_in (vs := []) (drew_ok fun w5 F5 z5 => ?_)
   have F45 := F4.tr F5
   have B5 := B3.fr F45 (fun h => h)
   have C5 := C3.fr F45 (fun h => h)
   refine B5.ldS (o := 5) rfl (vpart_ld (hps.fr (F123.tr F45)) hx hpn fun k1 z1 o1 n1 ns1 ps1 hv1 => ?_)
   refine C5.ldS (o := 5) rfl (vpart_ld (hps2.fr (F123.tr F45)) hy hpn2 fun k3 z3 o3 n3 ns3 ps3 hv3 => ?_)
   refine callB_ok (vequal_ok d x y (by omega) hv1 hv3) fun w6 F6 => ?_
   refine keep_cons ((C5.fr F6 (fun h => h)).held1 rfl) (keep_cons ((B5.fr F6 (fun h => h)).held1 rfl) (keep_nil ?_))
   refine ite_ok (fun hne => ⟨?_, (F123.tr F45).tr F6⟩) fun he => hrec (by omega) _ ⟨fun j a b hj ha hb => ?_, F45.tr F6⟩
   ·have hne : eqS x y = false := by simpa using hne
    rw [heq3]
    have : eqL psA psB = false := by
     rw [Bool.eq_false_iff]
     intro h
     rw [eqL_at h hx hy] at hne
     cases hne
    rw [this]
   ·have he : eqS x y = true := by simpa using he
    rcases Nat.lt_succ_iff_lt_or_eq.1 hj with hj | rfl
    ·exact hdone j a b hj ha hb
    ·rw [hx] at ha
     rw [hy] at hb
     cases ha
     cases hb
     exact he
  ·have hge : ¬ (i : Int) < (ps.n : Int) := of_decide_eq_false hge
   have := (List.getElem?_eq_some_iff.1 ha).1
   exact hdone j a b (by omega) ha hb
theorem resVEqual : (resOf Tryz.prog 32).isSome = true := by kernel_rfl
theorem veqFunc_ok {w : World} {l0 l1 : Sl} {A B' : List Shape} (hA : VaL w l0.a 0 A) (hB : VaL w l1.a 0 B') (h1 : l0.n = A.length) (h2 : l1.n = B'.length) (hl : A.length < 4611686018427387904)
  (ih : ∀ x ∈ A, ∀ (y : Shape) {w : World} {k z : Int} {o n : ByteArray} {ns ps : Sl} {k2 z2 : Int} {o2 n2 : ByteArray} {ns2 ps2 : Sl}, VaV w k z o n ns ps x → VaV w k2 z2 o2 n2 ns2 ps2 y → AnsB 32 #[vaArg k z o n ns ps, vaArg k2 z2 o2 n2 ns2 ps2] w (eqS x y)) :
  AnsB 52 #[.slice l0.a l0.n l0.c, .slice l1.a l1.n l1.c, .func (.func 32) #[] #[]] w (eqL A B') := by
 apply c52
 unfold t52 wrZ ld6mZ ld6xZ vaZ st6Z nz6Z jn0Z lpIZ ixZ
 refine ite_ok (fun hne => ⟨?_, Fr.refl _ _⟩) fun he => ?_
 ·have hne : ((l0.n : Nat) : Int) ≠ (l1.n : Nat) := by simpa using hne
  have : eqL A B' = false := by
   rw [Bool.eq_false_iff]
   intro h
   have := eqL_len h
   omega
  rw [this]
 have he : ((l0.n : Nat) : Int) = (l1.n : Nat) := by simpa using he
 refine join0_ok (fun w' => eqL A B' = true ∧ Fr noB w w') (fun kend hkend => ?_) fun w' ⟨h, F⟩ => ⟨by rw [h], F⟩
 refine countL_ok A.length (by omega) (fun i w' => (∀ (j : Nat) (a b : Shape), j < i → A[j]? = some a → B'[j]? = some b → eqS a b = true) ∧ Fr noB w w') (fun rec i w1 hi hI hrec => ?_) ⟨fun j a b h => by omega, Fr.refl _ _⟩
 obtain ⟨hdone, F1⟩ := hI
 refine ite_ok (fun hlt => ?_) fun hge => hkend _ ⟨?_, F1⟩
 ·have hlt : (i : Int) < (l0.n : Int) := of_decide_eq_true hlt
  obtain ⟨x, hx⟩ : ∃ x, A[i]? = some x := ⟨_, List.getElem?_eq_getElem (by omega)⟩
  obtain ⟨y, hy⟩ : ∃ y, B'[i]? = some y := ⟨_, List.getElem?_eq_getElem (by omega)⟩
  refine join_in (vs := []) (vpart_ld0 hA F1 hx h1 fun k1 z1 o1 n1 ns1 ps1 hv1 => new_ok fun w2 m13 hm13 hs2 B2 F2 => fill6_ok B2 rfl rfl rfl rfl rfl rfl rfl fun w3 B3 F3 => ?_)
  have G3 : Fr noB w w3 := (F1.tr F2).fill (by have := F1.size; omega) F3
  change Blk w3 m13 _ (vaCells k1 z1 o1 n1 ns1 ps1) at B3
  refine vpart_ld0 hB G3 hy h2 fun k2 z2 o2 n2 ns2 ps2 hv2 => new_ok fun w4 m20 hm20 hs4 C4 F4 => fill6_ok C4 rfl rfl rfl rfl rfl rfl rfl fun w5 C5 F5 => ?_
  change Blk w5 m20 _ (vaCells k2 z2 o2 n2 ns2 ps2) at C5
  have G5 : Fr noB w w5 := (G3.tr F4).fill (by have := G3.size; omega) F5
  have hlt3 := B3.lt
  have B5 := (B3.fr F4 (fun h => h)).fr F5 (fun h => by unfold oneB at h; omega)
  refine B5.ldW (C5.ldW (callBV_ok resVEqual (ih x (List.mem_of_getElem? hx) y (hv1.fr G5) (hv2.fr G5)) fun w6 F6 => ?_))
  refine ite_ok (fun hne => ⟨?_, G5.tr F6⟩) fun h => hrec (by omega) _ ⟨fun j a b hj ha hb => ?_, G5.tr F6⟩
  ·have hne : eqS x y = false := by simpa using hne
   have : eqL A B' = false := by
    rw [Bool.eq_false_iff]
    intro h
    rw [eqL_at h hx hy] at hne
    cases hne
   rw [this]
  ·have h : eqS x y = true := by simpa using h
   rcases Nat.lt_succ_iff_lt_or_eq.1 hj with hj | rfl
   ·exact hdone j a b hj ha hb
   ·rw [hx] at ha
    rw [hy] at hb
    cases ha
    cases hb
    exact h
 ·have hge : ¬ (i : Int) < (l0.n : Int) := of_decide_eq_false hge
  refine eqL_of (by omega) fun j a b ha hb => ?_
  have := (List.getElem?_eq_some_iff.1 ha).1
  exact hdone j a b (by omega) ha hb
theorem pequal_ok : ∀ (d : Nat) (s s' : Shape), size s ≤ d → ∀ {w : World} {k z : Int} {o n : ByteArray} {ns ps : Sl} {k2 z2 : Int} {o2 n2 : ByteArray} {ns2 ps2 : Sl}, VaV w k z o n ns ps s → VaV w k2 z2 o2 n2 ns2 ps2 s' →
  AnsB 32 #[vaArg k z o n ns ps, vaArg k2 z2 o2 n2 ns2 ps2] w (eqS s s')
 | 0, s, _, h, _, _, _, _, _, _, _, _, _, _, _, _, _, _, _ => by have := size_pos s; omega
 | d + 1, .mk kA oA nA nsA psA, .mk kB oB nB nsB psB, hd, w, k, z, o, n, ns, ps, k2, z2, o2, n2, ns2, ps2, hv, hv2 => by
  rw [size_mk] at hd
  obtain ⟨ek, eo, en, ⟨hz, hns, hnl, hpn, hpl, _⟩, hps⟩ := hv.parts
  obtain ⟨ek2, eo2, en2, ⟨hz2, hns2, hnl2, hpn2, hpl2, _⟩, hps2⟩ := hv2.parts
  change kA = vk k z at ek
  change bl o = oA at eo
  change bl n = nA at en
  change kB = vk k2 z2 at ek2
  change bl o2 = oB at eo2
  change bl n2 = nB at en2
  change RdS w ns (nsA.map bs) at hns
  change RdS w ns2 (nsB.map bs) at hns2
  replace hnl : nsA.length < 4611686018427387904 := by change nsA.length * 16 ≤ 140737488351232 at hnl; omega
  change ps.n = psA.length at hpn
  change ps2.n = psB.length at hpn2
  change psA.length < 4611686018427387904 at hpl
  change VaL w ps.a 0 psA at hps
  change VaL w ps2.a 0 psB at hps2
  have heq : eqS (.mk kA oA nA nsA psA) (.mk kB oB nB nsB psB) = (decide (kA = kB) && oA == oB && nA == nB && nsA == nsB && eqL psA psB) := by rw [eqS]
  apply c32
  unfold t32 svZ ldIZ ldSZ ldLZ nw6Z caBZ jnBZ
  refine new_ok fun w1 m10 hm10 hs1 B1 F1 => new_ok fun w2 m11 hm11 hs2 C2 F2 => ?_
  have B2 := B1.fr F2 (fun h => h)
  change Blk w2 m10 _ (vaCells k z o n ns ps) at B2
  change Blk w2 m11 _ (vaCells k2 z2 o2 n2 ns2 ps2) at C2
  have F12 := F1.tr F2
  clear B1
  generalize hT : eqS (.mk kA oA nA nsA psA) (.mk kB oB nB nsB psB) = T at heq
  refine join1_ok (c := .bool) (fun (b : Bool) w' => b = T ∧ Fr noB w w') (fun kj hkj => ?_) (fun b w' h => done_b h)
  refine B2.ld (c := .int .i64) (x := k) (o := 0) rfl (C2.ld (c := .int .i64) (x := k2) (o := 0) rfl ?_)
  refine ite_ok (fun h1 => B2.ld (c := .int .i64) (x := z) (o := 1) rfl (C2.ld (c := .int .i64) (x := z2) (o := 1) rfl (ite_ok (fun h0 => B2.ld (c := .str) (x := o) (o := 2) rfl (C2.ld (c := .str) (x := o2) (o := 2) rfl ?_)) fun h0 => hkj _ _ ⟨?_, F12⟩))) fun h1 => hkj _ _ ⟨?_, F12⟩
  rotate_left
  ·have h1 : kA ≠ kB := by
    rw [ek, ek2]
    intro e
    have := ((vk_inj hz.1 hz.2 hz2.1 hz2.2).1 e).2
    simp [this] at h0
   rw [heq, decide_eq_false h1]
   rfl
  ·have h1 : kA ≠ kB := by
    rw [ek, ek2]
    intro e
    have := ((vk_inj hz.1 hz.2 hz2.1 hz2.2).1 e).1
    simp [this] at h1
   rw [heq, decide_eq_false h1]
   rfl
  have h1 : kA = kB := by
   have a : k = k2 := by simpa using h1
   have b : z = z2 := by simpa using h0
   rw [ek, ek2, a, b]
  rw [eq_bl, eo, eo2]
  refine ite_ok (fun h2 => B2.ld (c := .str) (x := n) (o := 3) rfl (C2.ld (c := .str) (x := n2) (o := 3) rfl ?_)) fun h2 => hkj _ _ ⟨by rw [heq, h2, Bool.and_false]; rfl, F12⟩
  rw [eq_bl, en, en2]
  refine ite_ok (fun h3 => B2.ldS (o := 4) rfl (C2.ldS (o := 4) rfl (callB_ok (eqRow_ok (hns.fr F12) (hns2.fr F12) hnl) fun w3 F3 => ?_))) fun h3 => hkj _ _ ⟨by rw [heq, h3, Bool.and_false]; rfl, F12⟩
  have G3 := F12.tr F3
  refine ite_ok (fun h4 => (B2.fr F3 (fun h => h)).ldS (o := 5) rfl ((C2.fr F3 (fun h => h)).ldS (o := 5) rfl (callB_ok (veqFunc_ok (hps.fr G3) (hps2.fr G3) hpn hpn2 hpl fun x hx y => ?_) fun w4 F4 => hkj _ _ ⟨?_, G3.tr F4⟩))) fun h4 => hkj _ _ ⟨by rw [heq, h4, Bool.and_false]; rfl, G3⟩
  ·have := size_mem hx
   exact fun {_ _ _ _ _ _ _ _ _ _ _ _ _} hv3 hv4 => pequal_ok d x y (by omega) hv3 hv4
  ·rw [heq, decide_eq_true h1, h2, h3, h4]
   rfl
end Go.Proofs.YtngfnokbdcjoeaaGreatDoor
end
section
namespace Go.Proofs.YtngfnokbdcjoeaaGreatDoor
open Go.Lift Go.Lex Go.Shp
def SortR (w : World) (s : Shape) (e : Ending) (w' : World) : Prop := ∃ (k z : Int) (o n : ByteArray) (ns ps : Sl), e = .returned (vaArg k z o n ns ps) ∧ Fr noB w w' ∧ VaV w' k z o n ns ps s
theorem callR_ok {w : World} {R : Ending → World → Prop} {f : FuncId} {args : Array Value} {s : Shape} (hc : Calls Tryz.prog f args w (SortR w s)) {K : Int → Int → ByteArray → ByteArray → Sl → Sl → G}
  (h : ∀ k z o n ns ps w', Fr noB w w' → VaV w' k z o n ns ps s → K k z o n ns ps R w') : callG Tryz.prog f args [.agg [.int .i64, .int .i64, .str, .str, .slice, .slice]] K R w :=
 call_ok hc fun _ w' ⟨k, z, o, n, ns, ps, he, F, hv⟩ => ⟨((k, z, o, n, ns, ps, ()), ()), he, h k z o n ns ps w' F hv⟩
section
variable {w : World} {s s' : Shape} {k z : Int} {o n : ByteArray} {ns ps : Sl} {k2 z2 : Int} {o2 n2 : ByteArray} {ns2 ps2 : Sl}
theorem PSort_ok (hv : VaV w k z o n ns ps s) : Calls Tryz.prog 15 #[vaArg k z o n ns ps] w (SortR w (if vcheck s = 0 then sortS s else s)) := by
 apply c15
 unfold t15 ld6mZ vaZ st6Z nw6Z nz6Z ca6Z caIZ
 refine new_ok fun w1 m5 hm5 hs1 B1 F1 => new_ok fun w2 m6 hm6 hs2 C2 F2 => ?_
 have B2 := B1.fr F2 (fun h => h)
 change Blk w2 m5 _ (vaCells k z o n ns ps) at B2
 have F12 := F1.tr F2
 have hw6 : w.heap.size ≤ m6 := by omega
 refine B2.ldW (callI_ok (PCheck_ok (hv.fr F12)) fun w3 F3 => ?_)
 have B3 := B2.fr F3 (fun h => h)
 have C3 := C2.fr F3 (fun h => h)
 have F13 := F12.tr F3
 refine ite_ok (fun h => ?_) fun h => ?_
 ·have h : vcheck s ≠ 0 := by
   intro e
   rw [e] at h
   cases h
  rw [if_neg h]
  refine B3.ldW (fill6_ok C3 rfl rfl rfl rfl rfl rfl rfl fun w4 C4 F4 => ?_)
  change Blk w4 m6 _ (vaCells k z o n ns ps) at C4
  have G4 : Fr noB w w4 := F13.fill hw6 F4
  exact C4.ldW ⟨k, z, o, n, ns, ps, rfl, G4, hv.fr G4⟩
 ·have h : vcheck s = 0 := by
   have h : ((vcheck s : Nat) : Int) = 0 := by simpa using h
   omega
  rw [if_pos h]
  obtain ⟨za, _, fa⟩ := vcheck_ok.1 h
  refine B3.ldW (callSortV_ok (psorted_go (size s) s (Nat.le_refl _) za fa (hv.fr F13)) fun k3 z3 o3 n3 ns3 ps3 w4 F4 hs => fill6_ok (C3.fr F4 (fun h => h)) rfl rfl rfl rfl rfl rfl rfl fun w5 C5 F5 => ?_)
  change Blk w5 m6 _ (vaCells k3 z3 o3 n3 ns3 ps3) at C5
  have hm6l := C3.lt
  exact C5.ldW ⟨k3, z3, o3, n3, ns3, ps3, rfl, (F13.tr F4).fill hw6 F5, hs w5 (F5.mono fun x hx h => by unfold oneB at h; show x < w3.heap.size; omega)⟩
set_option maxHeartbeats 2000000 in
theorem PSame_ok (hv : VaV w k z o n ns ps s) (hv2 : VaV w k2 z2 o2 n2 ns2 ps2 s') :
  AnsB 17 #[vaArg k z o n ns ps, vaArg k2 z2 o2 n2 ns2 ps2] w (vsame s s') := by
 apply c17
 unfold t17 ld6mZ vaZ kf6Z nw6Z ca6Z caBZ caIZ jnBZ
 refine new_ok fun w1 m10 hm10 hs1 B1 F1 => new_ok fun w2 m11 hm11 hs2 C2 F2 => ?_
 have B2 := B1.fr F2 (fun h => h)
 change Blk w2 m10 _ (vaCells k z o n ns ps) at B2
 change Blk w2 m11 _ (vaCells k2 z2 o2 n2 ns2 ps2) at C2
 have F12 := F1.tr F2
 clear B1
 have fB : ∀ w', Fr noB w2 w' → Held w' (⟨m10, 0, none⟩, [.int .i64 k, .int .i64 z, .string o, .string n, .slice ns.a ns.n ns.c, .slice ps.a ps.n ps.c]) := fun w' F => (B2.fr F (fun h => h)).heldW
 have fC : ∀ w', Fr noB w2 w' → Held w' (⟨m11, 0, none⟩, [.int .i64 k2, .int .i64 z2, .string o2, .string n2, .slice ns2.a ns2.n ns2.c, .slice ps2.a ps2.n ps2.c]) := fun w' F => (C2.fr F (fun h => h)).heldW
 have hsp : vsame s s' = (vcheck s == 0 && vcheck s' == 0 && eqS (sortS s) (sortS s')) := rfl
 refine join1_ok (c := .bool) (fun (b : Bool) w' => b = vsame s s' ∧ Fr noB w w') (fun kj hkj => drew_ok fun w2' F2' z2' => ?_) (fun b w' h => done_b h)
 have G2 := F12.tr F2'
 refine (B2.fr F2' (fun h => h)).ldW (callI_ok (PCheck_ok (hv.fr G2)) fun w3 F3 => ?_)
 have G3 := G2.tr F3
 have H3 := F2'.tr F3
 refine ite_ok (fun h1 => ?_) fun h1 => hkj _ _ ⟨?_, G3⟩
 ·have h1 : vcheck s = 0 := nat0 h1
  refine (C2.fr H3 (fun h => h)).ldW (callI_ok (PCheck_ok (hv2.fr G3)) fun w4 F4 => ?_)
  have G4 := G3.tr F4
  have H4 := H3.tr F4
  refine Stay.go (w := w2) (by repeat (first | exact Stay.nil | refine Stay.cons (by assumption) ?_)) H4 ?_
  refine ite_ok (fun h2 => ?_) fun h2 => hkj _ _ ⟨?_, G4⟩
  ·have h2 : vcheck s' = 0 := nat0 h2
   obtain ⟨za, _, fa⟩ := vcheck_ok.1 h1
   obtain ⟨zb, _, fb⟩ := vcheck_ok.1 h2
   refine (B2.fr H4 (fun h => h)).ldW ((C2.fr H4 (fun h => h)).ldW (callSortV_ok (psorted_go (size s) s (Nat.le_refl _) za fa (hv.fr G4)) fun k3 z3 o3 n3 ns3 ps3 w5 F5 hs5 => ?_))
   refine Stay.go (w := w2) (by repeat (first | exact Stay.nil | refine Stay.cons (by assumption) ?_)) (H4.tr F5) ?_
   refine callSortV_ok (psorted_go (size s') s' (Nat.le_refl _) zb fb (hv2.fr (G4.tr F5))) fun k4 z4 o4 n4 ns4 ps4 w6 F6 hs6 => ?_
   have G6 := (G4.tr F5).tr F6
   have H6 := (H4.tr F5).tr F6
   refine Stay.go (w := w2) (by repeat (first | exact Stay.nil | refine Stay.cons (by assumption) ?_)) H6 ?_
   refine callB_ok (pequal_ok (size (sortS s)) (sortS s) (sortS s') (Nat.le_refl _) (hs5 w6 (F6.mono fun _ _ h => h.elim)) (hs6 w6 (Fr.refl _ _))) fun w7 F7 => ?_
   refine Stay.go (w := w2) (by repeat (first | exact Stay.nil | refine Stay.cons (by assumption) ?_)) (H6.tr F7) (hkj _ _ ⟨?_, G6.tr F7⟩)
   rw [hsp, h1, h2]
   rfl
  ·have h2 : (vcheck s' == 0) = false := by
    rw [beq_eq_false_iff_ne]
    intro e
    rw [e] at h2
    cases h2
   rw [hsp, h2, Bool.and_false]
   rfl
 ·have h1 : (vcheck s == 0) = false := by
   rw [beq_eq_false_iff_ne]
   intro e
   rw [e] at h1
   cases h1
  rw [hsp, h1]
  rfl
theorem vSort_ok (hv : VaV w k z o n ns ps s) : Calls Tryz.prog 16 #[vaArg k z o n ns ps] w (SortR w (if vcheck s = 0 then sortS s else s)) := by
 apply c16
 unfold t16 ld6mZ vaZ st6Z nw6Z nz6Z ca6Z caIZ
 refine new_ok fun w1 m5 hm5 hs1 B1 F1 => new_ok fun w2 m6 hm6 hs2 C2 F2 => ?_
 have B2 := B1.fr F2 (fun h => h)
 change Blk w2 m5 _ (vaCells k z o n ns ps) at B2
 have F12 := F1.tr F2
 have hw6 : w.heap.size ≤ m6 := by omega
 refine B2.ldW (callI_ok (vCheckS_ok (hv.fr F12)) fun w3 F3 => ?_)
 have B3 := B2.fr F3 (fun h => h)
 have C3 := C2.fr F3 (fun h => h)
 have F13 := F12.tr F3
 refine ite_ok (fun h => ?_) fun h => ?_
 ·have h : vcheck s ≠ 0 := by
   intro e
   rw [e] at h
   cases h
  rw [if_neg h]
  refine B3.ldW (fill6_ok C3 rfl rfl rfl rfl rfl rfl rfl fun w4 C4 F4 => ?_)
  change Blk w4 m6 _ (vaCells k z o n ns ps) at C4
  have G4 : Fr noB w w4 := F13.fill hw6 F4
  exact C4.ldW ⟨k, z, o, n, ns, ps, rfl, G4, hv.fr G4⟩
 ·have h : vcheck s = 0 := by
   have h : ((vcheck s : Nat) : Int) = 0 := by simpa using h
   omega
  rw [if_pos h]
  obtain ⟨za, _, fa⟩ := vcheck_ok.1 h
  refine B3.ldW (callSortV_ok (vsorted_go (size s) s (Nat.le_refl _) za fa (hv.fr F13)) fun k3 z3 o3 n3 ns3 ps3 w4 F4 hs => fill6_ok (C3.fr F4 (fun h => h)) rfl rfl rfl rfl rfl rfl rfl fun w5 C5 F5 => ?_)
  change Blk w5 m6 _ (vaCells k3 z3 o3 n3 ns3 ps3) at C5
  have hm6l := C3.lt
  exact C5.ldW ⟨k3, z3, o3, n3, ns3, ps3, rfl, (F13.tr F4).fill hw6 F5, hs w5 (F5.mono fun x hx h => by unfold oneB at h; show x < w3.heap.size; omega)⟩
set_option maxHeartbeats 2000000 in
theorem vSame_ok (hv : VaV w k z o n ns ps s) (hv2 : VaV w k2 z2 o2 n2 ns2 ps2 s') :
  AnsB 18 #[vaArg k z o n ns ps, vaArg k2 z2 o2 n2 ns2 ps2] w (vsame s s') := by
 apply c18
 unfold t18 ld6mZ vaZ kf6Z nw6Z ca6Z caBZ caIZ jnBZ
 refine new_ok fun w1 m10 hm10 hs1 B1 F1 => new_ok fun w2 m11 hm11 hs2 C2 F2 => ?_
 have B2 := B1.fr F2 (fun h => h)
 change Blk w2 m10 _ (vaCells k z o n ns ps) at B2
 change Blk w2 m11 _ (vaCells k2 z2 o2 n2 ns2 ps2) at C2
 have F12 := F1.tr F2
 clear B1
 have fB : ∀ w', Fr noB w2 w' → Held w' (⟨m10, 0, none⟩, [.int .i64 k, .int .i64 z, .string o, .string n, .slice ns.a ns.n ns.c, .slice ps.a ps.n ps.c]) := fun w' F => (B2.fr F (fun h => h)).heldW
 have fC : ∀ w', Fr noB w2 w' → Held w' (⟨m11, 0, none⟩, [.int .i64 k2, .int .i64 z2, .string o2, .string n2, .slice ns2.a ns2.n ns2.c, .slice ps2.a ps2.n ps2.c]) := fun w' F => (C2.fr F (fun h => h)).heldW
 have hsp : vsame s s' = (vcheck s == 0 && vcheck s' == 0 && eqS (sortS s) (sortS s')) := rfl
 refine join1_ok (c := .bool) (fun (b : Bool) w' => b = vsame s s' ∧ Fr noB w w') (fun kj hkj => drew_ok fun w2' F2' z2' => ?_) (fun b w' h => done_b h)
 have G2 := F12.tr F2'
 refine (B2.fr F2' (fun h => h)).ldW (callI_ok (vCheckS_ok (hv.fr G2)) fun w3 F3 => ?_)
 have G3 := G2.tr F3
 have H3 := F2'.tr F3
 refine ite_ok (fun h1 => ?_) fun h1 => hkj _ _ ⟨?_, G3⟩
 ·have h1 : vcheck s = 0 := nat0 h1
  refine (C2.fr H3 (fun h => h)).ldW (callI_ok (vCheckS_ok (hv2.fr G3)) fun w4 F4 => ?_)
  have G4 := G3.tr F4
  have H4 := H3.tr F4
  refine Stay.go (w := w2) (by repeat (first | exact Stay.nil | refine Stay.cons (by assumption) ?_)) H4 ?_
  refine ite_ok (fun h2 => ?_) fun h2 => hkj _ _ ⟨?_, G4⟩
  ·have h2 : vcheck s' = 0 := nat0 h2
   obtain ⟨za, _, fa⟩ := vcheck_ok.1 h1
   obtain ⟨zb, _, fb⟩ := vcheck_ok.1 h2
   refine (B2.fr H4 (fun h => h)).ldW ((C2.fr H4 (fun h => h)).ldW (callSortV_ok (vsorted_go (size s) s (Nat.le_refl _) za fa (hv.fr G4)) fun k3 z3 o3 n3 ns3 ps3 w5 F5 hs5 => ?_))
   refine Stay.go (w := w2) (by repeat (first | exact Stay.nil | refine Stay.cons (by assumption) ?_)) (H4.tr F5) ?_
   refine callSortV_ok (vsorted_go (size s') s' (Nat.le_refl _) zb fb (hv2.fr (G4.tr F5))) fun k4 z4 o4 n4 ns4 ps4 w6 F6 hs6 => ?_
   have G6 := (G4.tr F5).tr F6
   have H6 := (H4.tr F5).tr F6
   refine Stay.go (w := w2) (by repeat (first | exact Stay.nil | refine Stay.cons (by assumption) ?_)) H6 ?_
   refine callB_ok (vequal_ok (size (sortS s)) (sortS s) (sortS s') (Nat.le_refl _) (hs5 w6 (F6.mono fun _ _ h => h.elim)) (hs6 w6 (Fr.refl _ _))) fun w7 F7 => ?_
   refine Stay.go (w := w2) (by repeat (first | exact Stay.nil | refine Stay.cons (by assumption) ?_)) (H6.tr F7) (hkj _ _ ⟨?_, G6.tr F7⟩)
   rw [hsp, h1, h2]
   rfl
  ·have h2 : (vcheck s' == 0) = false := by
    rw [beq_eq_false_iff_ne]
    intro e
    rw [e] at h2
    cases h2
   rw [hsp, h2, Bool.and_false]
   rfl
 ·have h1 : (vcheck s == 0) = false := by
   rw [beq_eq_false_iff_ne]
   intro e
   rw [e] at h1
   cases h1
  rw [hsp, h1]
  rfl
end
end Go.Proofs.YtngfnokbdcjoeaaGreatDoor
end
