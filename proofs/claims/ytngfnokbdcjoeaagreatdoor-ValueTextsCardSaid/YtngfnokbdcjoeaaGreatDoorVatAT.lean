/- The law behind: one part of its proof (joined by program out of my own texts). No condition. -/
import Derived.Test.YtngfnokbdcjoeaaGreatDoorVatAS
import Derived.MapKept
section
namespace Go.Proofs.YtngfnokbdcjoeaaGreatDoor
open Go.Lift Go.Lex Go.Shp
theorem resVEqual : (resOf Tryz.prog 32).isSome = true := by kernel_rfl
theorem veqFunc_ok {w : World} {l0 l1 : Sl} {A B' : List Shape} (hA : VaL w l0.a 0 A) (hB : VaL w l1.a 0 B') (h1 : l0.n = A.length) (h2 : l1.n = B'.length) (hl : A.length < 4611686018427387904)
  (ih : ∀ x ∈ A, ∀ (y : Shape) {w : World} {k z : Int} {o n : ByteArray} {ns ps : Sl} {k2 z2 : Int} {o2 n2 : ByteArray} {ns2 ps2 : Sl}, VaV w k z o n ns ps x → VaV w k2 z2 o2 n2 ns2 ps2 y → AnsB 32 #[vaArg k z o n ns ps, vaArg k2 z2 o2 n2 ns2 ps2] w (eqS x y)) :
  AnsB 52 #[.slice l0.a l0.n l0.c, .slice l1.a l1.n l1.c, .func (.func 32) #[] #[]] w (eqL A B') := by
 apply c52
 unfold t52 wrZ ld6mZ ld6xZ vaZ st6Z nz6Z jn0Z lpIZ ixZ
 refine ite_ok (fun hne => ⟨?_, Fr.refl _ _⟩) fun he => ?_
 ·have hne : ((l0.n : Nat) : Int) ≠ (l1.n : Nat) := by simpa using hne
  have : eqL A B' = false := by
   rw [Bool.eq_false_iff]
   intro h
   have := eqL_len h
   omega
  rw [this]
 have he : ((l0.n : Nat) : Int) = (l1.n : Nat) := by simpa using he
 refine join0_ok (fun w' => eqL A B' = true ∧ Fr noB w w') (fun kend hkend => ?_) fun w' ⟨h, F⟩ => ⟨by rw [h], F⟩
 refine countL_ok A.length (by omega) (fun i w' => (∀ (j : Nat) (a b : Shape), j < i → A[j]? = some a → B'[j]? = some b → eqS a b = true) ∧ Fr noB w w') (fun rec i w1 hi hI hrec => ?_) ⟨fun j a b h => by omega, Fr.refl _ _⟩
 obtain ⟨hdone, F1⟩ := hI
 refine ite_ok (fun hlt => ?_) fun hge => hkend _ ⟨?_, F1⟩
 ·have hlt : (i : Int) < (l0.n : Int) := of_decide_eq_true hlt
  obtain ⟨x, hx⟩ : ∃ x, A[i]? = some x := ⟨_, List.getElem?_eq_getElem (by omega)⟩
  obtain ⟨y, hy⟩ : ∃ y, B'[i]? = some y := ⟨_, List.getElem?_eq_getElem (by omega)⟩
  refine join_in (vs := []) (vpart_ld0 hA F1 hx h1 fun k1 z1 o1 n1 ns1 ps1 hv1 => new_ok fun w2 m13 hm13 hs2 B2 F2 => fill6_ok B2 rfl rfl rfl rfl rfl rfl rfl fun w3 B3 F3 => ?_)
  have G3 : Fr noB w w3 := (F1.tr F2).fill (by have := F1.size; omega) F3
  change Blk w3 m13 _ (vaCells k1 z1 o1 n1 ns1 ps1) at B3
  refine vpart_ld0 hB G3 hy h2 fun k2 z2 o2 n2 ns2 ps2 hv2 => new_ok fun w4 m20 hm20 hs4 C4 F4 => fill6_ok C4 rfl rfl rfl rfl rfl rfl rfl fun w5 C5 F5 => ?_
  change Blk w5 m20 _ (vaCells k2 z2 o2 n2 ns2 ps2) at C5
  have G5 : Fr noB w w5 := (G3.tr F4).fill (by have := G3.size; omega) F5
  have hlt3 := B3.lt
  have B5 := (B3.fr F4 (fun h => h)).fr F5 (fun h => by unfold oneB at h; omega)
  refine B5.ldW (C5.ldW (callBV_ok resVEqual (ih x (List.mem_of_getElem? hx) y (hv1.fr G5) (hv2.fr G5)) fun w6 F6 => ?_))
  refine ite_ok (fun hne => ⟨?_, G5.tr F6⟩) fun h => hrec (by omega) _ ⟨fun j a b hj ha hb => ?_, G5.tr F6⟩
  ·have hne : eqS x y = false := by simpa using hne
   have : eqL A B' = false := by
    rw [Bool.eq_false_iff]
    intro h
    rw [eqL_at h hx hy] at hne
    cases hne
   rw [this]
  ·have h : eqS x y = true := by simpa using h
   rcases Nat.lt_succ_iff_lt_or_eq.1 hj with hj | rfl
   ·exact hdone j a b hj ha hb
   ·rw [hx] at ha
    rw [hy] at hb
    cases ha
    cases hb
    exact h
 ·have hge : ¬ (i : Int) < (l0.n : Int) := of_decide_eq_false hge
  refine eqL_of (by omega) fun j a b ha hb => ?_
  have := (List.getElem?_eq_some_iff.1 ha).1
  exact hdone j a b (by omega) ha hb
theorem pequal_ok : ∀ (d : Nat) (s s' : Shape), size s ≤ d → ∀ {w : World} {k z : Int} {o n : ByteArray} {ns ps : Sl} {k2 z2 : Int} {o2 n2 : ByteArray} {ns2 ps2 : Sl}, VaV w k z o n ns ps s → VaV w k2 z2 o2 n2 ns2 ps2 s' →
  AnsB 32 #[vaArg k z o n ns ps, vaArg k2 z2 o2 n2 ns2 ps2] w (eqS s s')
 | 0, s, _, h, _, _, _, _, _, _, _, _, _, _, _, _, _, _, _ => by have := size_pos s; omega
 | d + 1, .mk kA oA nA nsA psA, .mk kB oB nB nsB psB, hd, w, k, z, o, n, ns, ps, k2, z2, o2, n2, ns2, ps2, hv, hv2 => by
  rw [size_mk] at hd
  obtain ⟨ek, eo, en, ⟨hz, hns, hnl, hpn, hpl, _⟩, hps⟩ := hv.parts
  obtain ⟨ek2, eo2, en2, ⟨hz2, hns2, hnl2, hpn2, hpl2, _⟩, hps2⟩ := hv2.parts
  change kA = vk k z at ek
  change bl o = oA at eo
  change bl n = nA at en
  change kB = vk k2 z2 at ek2
  change bl o2 = oB at eo2
  change bl n2 = nB at en2
  change RdS w ns (nsA.map bs) at hns
  change RdS w ns2 (nsB.map bs) at hns2
  replace hnl : nsA.length < 4611686018427387904 := by change nsA.length * 16 ≤ 140737488351232 at hnl; omega
  change ps.n = psA.length at hpn
  change ps2.n = psB.length at hpn2
  change psA.length < 4611686018427387904 at hpl
  change VaL w ps.a 0 psA at hps
  change VaL w ps2.a 0 psB at hps2
  have heq : eqS (.mk kA oA nA nsA psA) (.mk kB oB nB nsB psB) = (decide (kA = kB) && oA == oB && nA == nB && nsA == nsB && eqL psA psB) := by rw [eqS]
  apply c32
  unfold t32 svZ ldIZ ldSZ ldLZ nw6Z caBZ jnBZ
  refine new_ok fun w1 m10 hm10 hs1 B1 F1 => new_ok fun w2 m11 hm11 hs2 C2 F2 => ?_
  have B2 := B1.fr F2 (fun h => h)
  change Blk w2 m10 _ (vaCells k z o n ns ps) at B2
  change Blk w2 m11 _ (vaCells k2 z2 o2 n2 ns2 ps2) at C2
  have F12 := F1.tr F2
  clear B1
  generalize hT : eqS (.mk kA oA nA nsA psA) (.mk kB oB nB nsB psB) = T at heq
  refine join1_ok (c := .bool) (fun (b : Bool) w' => b = T ∧ Fr noB w w') (fun kj hkj => ?_) (fun b w' h => done_b h)
  refine B2.ld (c := .int .i64) (x := k) (o := 0) rfl (C2.ld (c := .int .i64) (x := k2) (o := 0) rfl ?_)
  refine ite_ok (fun h1 => B2.ld (c := .int .i64) (x := z) (o := 1) rfl (C2.ld (c := .int .i64) (x := z2) (o := 1) rfl (ite_ok (fun h0 => B2.ld (c := .str) (x := o) (o := 2) rfl (C2.ld (c := .str) (x := o2) (o := 2) rfl ?_)) fun h0 => hkj _ _ ⟨?_, F12⟩))) fun h1 => hkj _ _ ⟨?_, F12⟩
  rotate_left
  ·have h1 : kA ≠ kB := by
    rw [ek, ek2]
    intro e
    have := ((vk_inj hz.1 hz.2 hz2.1 hz2.2).1 e).2
    simp [this] at h0
   rw [heq, decide_eq_false h1]
   rfl
  ·have h1 : kA ≠ kB := by
    rw [ek, ek2]
    intro e
    have := ((vk_inj hz.1 hz.2 hz2.1 hz2.2).1 e).1
    simp [this] at h1
   rw [heq, decide_eq_false h1]
   rfl
  have h1 : kA = kB := by
   have a : k = k2 := by simpa using h1
   have b : z = z2 := by simpa using h0
   rw [ek, ek2, a, b]
  rw [eq_bl, eo, eo2]
  refine ite_ok (fun h2 => B2.ld (c := .str) (x := n) (o := 3) rfl (C2.ld (c := .str) (x := n2) (o := 3) rfl ?_)) fun h2 => hkj _ _ ⟨by rw [heq, h2, Bool.and_false]; rfl, F12⟩
  rw [eq_bl, en, en2]
  refine ite_ok (fun h3 => B2.ldS (o := 4) rfl (C2.ldS (o := 4) rfl (callB_ok (eqRow_ok (hns.fr F12) (hns2.fr F12) hnl) fun w3 F3 => ?_))) fun h3 => hkj _ _ ⟨by rw [heq, h3, Bool.and_false]; rfl, F12⟩
  have G3 := F12.tr F3
  refine ite_ok (fun h4 => (B2.fr F3 (fun h => h)).ldS (o := 5) rfl ((C2.fr F3 (fun h => h)).ldS (o := 5) rfl (callB_ok (veqFunc_ok (hps.fr G3) (hps2.fr G3) hpn hpn2 hpl fun x hx y => ?_) fun w4 F4 => hkj _ _ ⟨?_, G3.tr F4⟩))) fun h4 => hkj _ _ ⟨by rw [heq, h4, Bool.and_false]; rfl, G3⟩
  ·have := size_mem hx
   exact fun {_ _ _ _ _ _ _ _ _ _ _ _ _} hv3 hv4 => pequal_ok d x y (by omega) hv3 hv4
  ·rw [heq, decide_eq_true h1, h2, h3, h4]
   rfl
end Go.Proofs.YtngfnokbdcjoeaaGreatDoor
end
section
namespace Go.Proofs.YtngfnokbdcjoeaaGreatDoor
open Go.Lift Go.Lex Go.Shp
def SortR (w : World) (s : Shape) (e : Ending) (w' : World) : Prop := ∃ (k z : Int) (o n : ByteArray) (ns ps : Sl), e = .returned (vaArg k z o n ns ps) ∧ Fr noB w w' ∧ VaV w' k z o n ns ps s
theorem callR_ok {w : World} {R : Ending → World → Prop} {f : FuncId} {args : Array Value} {s : Shape} (hc : Calls Tryz.prog f args w (SortR w s)) {K : Int → Int → ByteArray → ByteArray → Sl → Sl → G}
  (h : ∀ k z o n ns ps w', Fr noB w w' → VaV w' k z o n ns ps s → K k z o n ns ps R w') : callG Tryz.prog f args [.agg [.int .i64, .int .i64, .str, .str, .slice, .slice]] K R w :=
 call_ok hc fun _ w' ⟨k, z, o, n, ns, ps, he, F, hv⟩ => ⟨((k, z, o, n, ns, ps, ()), ()), he, h k z o n ns ps w' F hv⟩
section
variable {w : World} {s s' : Shape} {k z : Int} {o n : ByteArray} {ns ps : Sl} {k2 z2 : Int} {o2 n2 : ByteArray} {ns2 ps2 : Sl}
theorem PSort_ok (hv : VaV w k z o n ns ps s) : Calls Tryz.prog 15 #[vaArg k z o n ns ps] w (SortR w (if vcheck s = 0 then sortS s else s)) := by
 apply c15
 unfold t15 ld6mZ vaZ st6Z nw6Z nz6Z ca6Z caIZ
 refine new_ok fun w1 m5 hm5 hs1 B1 F1 => new_ok fun w2 m6 hm6 hs2 C2 F2 => ?_
 have B2 := B1.fr F2 (fun h => h)
 change Blk w2 m5 _ (vaCells k z o n ns ps) at B2
 have F12 := F1.tr F2
 have hw6 : w.heap.size ≤ m6 := by omega
 refine B2.ldW (callI_ok (PCheck_ok (hv.fr F12)) fun w3 F3 => ?_)
 have B3 := B2.fr F3 (fun h => h)
 have C3 := C2.fr F3 (fun h => h)
 have F13 := F12.tr F3
 refine ite_ok (fun h => ?_) fun h => ?_
 ·have h : vcheck s ≠ 0 := by
   intro e
   rw [e] at h
   cases h
  rw [if_neg h]
  refine B3.ldW (fill6_ok C3 rfl rfl rfl rfl rfl rfl rfl fun w4 C4 F4 => ?_)
  change Blk w4 m6 _ (vaCells k z o n ns ps) at C4
  have G4 : Fr noB w w4 := F13.fill hw6 F4
  exact C4.ldW ⟨k, z, o, n, ns, ps, rfl, G4, hv.fr G4⟩
 ·have h : vcheck s = 0 := by
   have h : ((vcheck s : Nat) : Int) = 0 := by simpa using h
   omega
  rw [if_pos h]
  obtain ⟨za, _, fa⟩ := vcheck_ok.1 h
  refine B3.ldW (callSortV_ok (psorted_go (size s) s (Nat.le_refl _) za fa (hv.fr F13)) fun k3 z3 o3 n3 ns3 ps3 w4 F4 hs => fill6_ok (C3.fr F4 (fun h => h)) rfl rfl rfl rfl rfl rfl rfl fun w5 C5 F5 => ?_)
  change Blk w5 m6 _ (vaCells k3 z3 o3 n3 ns3 ps3) at C5
  have hm6l := C3.lt
  exact C5.ldW ⟨k3, z3, o3, n3, ns3, ps3, rfl, (F13.tr F4).fill hw6 F5, hs w5 (F5.mono fun x hx h => by unfold oneB at h; show x < w3.heap.size; omega)⟩
set_option maxHeartbeats 2000000 in
theorem PSame_ok (hv : VaV w k z o n ns ps s) (hv2 : VaV w k2 z2 o2 n2 ns2 ps2 s') :
  AnsB 17 #[vaArg k z o n ns ps, vaArg k2 z2 o2 n2 ns2 ps2] w (vsame s s') := by
 apply c17
 unfold t17 ld6mZ vaZ kf6Z nw6Z ca6Z caBZ caIZ jnBZ
 refine new_ok fun w1 m10 hm10 hs1 B1 F1 => new_ok fun w2 m11 hm11 hs2 C2 F2 => ?_
 have B2 := B1.fr F2 (fun h => h)
 change Blk w2 m10 _ (vaCells k z o n ns ps) at B2
 change Blk w2 m11 _ (vaCells k2 z2 o2 n2 ns2 ps2) at C2
 have F12 := F1.tr F2
 clear B1
 have fB : ∀ w', Fr noB w2 w' → Held w' (⟨m10, 0, none⟩, [.int .i64 k, .int .i64 z, .string o, .string n, .slice ns.a ns.n ns.c, .slice ps.a ps.n ps.c]) := fun w' F => (B2.fr F (fun h => h)).heldW
 have fC : ∀ w', Fr noB w2 w' → Held w' (⟨m11, 0, none⟩, [.int .i64 k2, .int .i64 z2, .string o2, .string n2, .slice ns2.a ns2.n ns2.c, .slice ps2.a ps2.n ps2.c]) := fun w' F => (C2.fr F (fun h => h)).heldW
 have hsp : vsame s s' = (vcheck s == 0 && vcheck s' == 0 && eqS (sortS s) (sortS s')) := rfl
 refine join1_ok (c := .bool) (fun (b : Bool) w' => b = vsame s s' ∧ Fr noB w w') (fun kj hkj => drew_ok fun w2' F2' z2' => ?_) (fun b w' h => done_b h)
 have G2 := F12.tr F2'
 refine (B2.fr F2' (fun h => h)).ldW (callI_ok (PCheck_ok (hv.fr G2)) fun w3 F3 => ?_)
 have G3 := G2.tr F3
 have H3 := F2'.tr F3
 refine ite_ok (fun h1 => ?_) fun h1 => hkj _ _ ⟨?_, G3⟩
 ·have h1 : vcheck s = 0 := nat0 h1
  refine (C2.fr H3 (fun h => h)).ldW (callI_ok (PCheck_ok (hv2.fr G3)) fun w4 F4 => ?_)
  have G4 := G3.tr F4
  have H4 := H3.tr F4
  refine Stay.go (w := w2) (by repeat (first | exact Stay.nil | refine Stay.cons (by assumption) ?_)) H4 ?_
  refine ite_ok (fun h2 => ?_) fun h2 => hkj _ _ ⟨?_, G4⟩
  ·have h2 : vcheck s' = 0 := nat0 h2
   obtain ⟨za, _, fa⟩ := vcheck_ok.1 h1
   obtain ⟨zb, _, fb⟩ := vcheck_ok.1 h2
   refine (B2.fr H4 (fun h => h)).ldW ((C2.fr H4 (fun h => h)).ldW (callSortV_ok (psorted_go (size s) s (Nat.le_refl _) za fa (hv.fr G4)) fun k3 z3 o3 n3 ns3 ps3 w5 F5 hs5 => ?_))
   refine Stay.go (w := w2) (by repeat (first | exact Stay.nil | refine Stay.cons (by assumption) ?_)) (H4.tr F5) ?_
   refine callSortV_ok (psorted_go (size s') s' (Nat.le_refl _) zb fb (hv2.fr (G4.tr F5))) fun k4 z4 o4 n4 ns4 ps4 w6 F6 hs6 => ?_
   have G6 := (G4.tr F5).tr F6
   have H6 := (H4.tr F5).tr F6
   refine Stay.go (w := w2) (by repeat (first | exact Stay.nil | refine Stay.cons (by assumption) ?_)) H6 ?_
   refine callB_ok (pequal_ok (size (sortS s)) (sortS s) (sortS s') (Nat.le_refl _) (hs5 w6 (F6.mono fun _ _ h => h.elim)) (hs6 w6 (Fr.refl _ _))) fun w7 F7 => ?_
   refine Stay.go (w := w2) (by repeat (first | exact Stay.nil | refine Stay.cons (by assumption) ?_)) (H6.tr F7) (hkj _ _ ⟨?_, G6.tr F7⟩)
   rw [hsp, h1, h2]
   rfl
  ·have h2 : (vcheck s' == 0) = false := by
    rw [beq_eq_false_iff_ne]
    intro e
    rw [e] at h2
    cases h2
   rw [hsp, h2, Bool.and_false]
   rfl
 ·have h1 : (vcheck s == 0) = false := by
   rw [beq_eq_false_iff_ne]
   intro e
   rw [e] at h1
   cases h1
  rw [hsp, h1]
  rfl
end
end Go.Proofs.YtngfnokbdcjoeaaGreatDoor
end
section
namespace Go.Shp
open Go.Lex
section
variable {f : Nat} {q : Int} {o t : B} {ns : List B} {ps : List Shape} {k : Int} {so sn : B} {sns : List B} {sps : List Shape}
theorem fit4 (h : k = 4) : vfitsF (f + 1) (.mk q o t ns ps) (.mk k so sn sns sps) = true := by rw [vfitsF, if_pos h]
theorem fit1 (h : k = 1) : vfitsF (f + 1) (.mk q o t ns ps) (.mk k so sn sns sps) = (kOf q == 1) := by
 subst h
 rw [vfitsF, if_neg (by omega)]
 by_cases h1 : kOf q = 1
 ·simp [h1]
 ·simp [h1]
theorem fit3 (h : k = 3) : vfitsF (f + 1) (.mk q o t ns ps) (.mk k so sn sns sps) = (kOf q == 2) := by
 subst h
 rw [vfitsF, if_neg (by omega)]
 by_cases h1 : kOf q = 1
 ·simp [h1]
 by_cases h2 : kOf q = 2
 ·simp [h2]
 simp [h1, h2]
theorem fit2 (h : k = 2) : vfitsF (f + 1) (.mk q o t ns ps) (.mk k so sn sns sps) = (kOf q == 3) := by
 subst h
 rw [vfitsF, if_neg (by omega)]
 by_cases h1 : kOf q = 1
 ·simp [h1]
 by_cases h2 : kOf q = 2
 ·simp [h2]
 by_cases h3 : kOf q = 3
 ·simp [h3]
 simp [h1, h2, h3]
theorem fit5 (h : k = 5) : vfitsF (f + 1) (.mk q o t ns ps) (.mk k so sn sns sps) = ((kOf q == 4) && vlist (vfitsF f) sps ps) := by
 subst h
 rw [vfitsF, if_neg (by omega)]
 by_cases h1 : kOf q = 1
 ·simp [h1]
 by_cases h2 : kOf q = 2
 ·simp [h2]
 by_cases h3 : kOf q = 3
 ·simp [h3]
 by_cases h7 : kOf q = 7
 ·simp [h7]
 by_cases h8 : kOf q = 8
 ·simp [h8]
 by_cases h4 : kOf q = 4
 ·simp [h4]
 simp [h1, h2, h3, h4, h7, h8]
theorem fit10 (h : k = 10) : vfitsF (f + 1) (.mk q o t ns ps) (.mk k so sn sns sps) = ((kOf q == 7) && ((o == so) && (t == sn))) := by
 subst h
 rw [vfitsF, if_neg (by omega)]
 by_cases h1 : kOf q = 1
 ·simp [h1]
 by_cases h2 : kOf q = 2
 ·simp [h2]
 by_cases h3 : kOf q = 3
 ·simp [h3]
 by_cases h7 : kOf q = 7
 ·simp [h7, BEq.comm (a := so), BEq.comm (a := sn)]
 simp [h1, h2, h3, h7]
theorem fit8 (h : k = 8) : vfitsF (f + 1) (.mk q o t ns ps) (.mk k so sn sns sps) = ((kOf q == 8) && decide ((sps.length : Int) = zOf q + 1)) := by
 subst h
 rw [vfitsF, if_neg (by omega)]
 by_cases h1 : kOf q = 1
 ·simp [h1]
 by_cases h2 : kOf q = 2
 ·simp [h2]
 by_cases h3 : kOf q = 3
 ·simp [h3]
 by_cases h7 : kOf q = 7
 ·simp [h7]
 by_cases h8 : kOf q = 8
 ·simp [h8]
 simp [h1, h2, h3, h7, h8]
theorem fit7 (h : k = 7) : vfitsF (f + 1) (.mk q o t ns ps) (.mk k so sn sns sps) = ((kOf q == 6) && vcase (vfitsF f) sns sps t ps) := by
 subst h
 rw [vfitsF, if_neg (by omega)]
 by_cases h1 : kOf q = 1
 ·simp [h1]
 by_cases h2 : kOf q = 2
 ·simp [h2]
 by_cases h3 : kOf q = 3
 ·simp [h3]
 by_cases h7 : kOf q = 7
 ·simp [h7]
 by_cases h8 : kOf q = 8
 ·simp [h8]
 by_cases h4 : kOf q = 4
 ·simp [h4]
 by_cases h6 : kOf q = 6
 ·simp [h6]
 simp [h1, h2, h3, h4, h6, h7, h8]
theorem fit6 (h : k = 6) (hk : 1 ≤ kOf q ∧ kOf q ≤ 8) : vfitsF (f + 1) (.mk q o t ns ps) (.mk k so sn sns sps) = ((kOf q == 5) && withinF (fun p x => vfitsF f x p) sns sps ns ps) := by
 subst h
 rw [vfitsF, if_neg (by omega)]
 rcases (by omega : kOf q = 1 ∨ kOf q = 2 ∨ kOf q = 3 ∨ kOf q = 4 ∨ kOf q = 5 ∨ kOf q = 6 ∨ kOf q = 7 ∨ kOf q = 8) with h | h | h | h | h | h | h | h <;> simp [h]
theorem fit0 (h : k ≠ 1 ∧ k ≠ 2 ∧ k ≠ 3 ∧ k ≠ 4 ∧ k ≠ 5 ∧ k ≠ 6 ∧ k ≠ 7 ∧ k ≠ 8 ∧ k ≠ 10) : vfitsF (f + 1) (.mk q o t ns ps) (.mk k so sn sns sps) = false := by
 obtain ⟨h1, h2, h3, h4, h5, h6, h7, h8, h10⟩ := h
 rw [vfitsF, if_neg h4]
 repeat' split
 all_goals simp [h1, h2, h3, h5, h6, h7, h8, h10]
end
theorem fits_list {o n : B} {ns : List B} {ps : List Shape} (h : fits (.mk 5 o n ns ps) = true) : ∃ p, ps = [p] := by
 unfold fits at h
 simp at h
 match ps, h with
 | [p], _ => exact ⟨p, rfl⟩
theorem fits_fun {o n : B} {ns : List B} {ps : List Shape} (h : fits (.mk 8 o n ns ps) = true) : 0 < ps.length := by
 unfold fits at h
 simp at h
 exact h.2
end Go.Shp
namespace Go.Proofs.YtngfnokbdcjoeaaGreatDoor
open Go.Lift Go.Lex Go.Shp
theorem resFit1 : (resOf Tryz.prog 56).isSome = true := by kernel_rfl
set_option maxHeartbeats 4000000 in
theorem pfits_ok : ∀ (d : Nat) (v s : Shape), deep v ≤ d → formed v = true → allFit s = true → ∀ {w : World} {k z : Int} {o n : ByteArray} {ns ps : Sl} {k2 : Int} {o2 n2 : ByteArray} {ns2 ps2 : Sl}, VaV w k z o n ns ps v → ShV w k2 o2 n2 ns2 ps2 s →
  AnsB 34 #[vaArg k z o n ns ps, shArg k2 o2 n2 ns2 ps2] w (vfitsF d v s)
 | 0, v, _, h, _, _, _, _, _, _, _, _, _, _, _, _, _, _, _, _ => by have := deep_pos v; omega
 | d + 1, .mk q oA nA nsA psA, .mk kB oB nB nsB psB, hd, hfo, hfi, w, k, z, o, n, ns, ps, k2, o2, n2, ns2, ps2, hv, hv2 => by
  rw [deep_mk] at hd
  obtain ⟨fa, pa⟩ := formed_parts hfo
  obtain ⟨fb, pb⟩ := allFit_parts hfi
  obtain ⟨ek, eo, en, ⟨⟨z1, z2⟩, hns, hnl, hpn, hpl, hos, hnz, hxl⟩, hps⟩ := hv.parts
  obtain ⟨ek2, eo2, en2, ⟨hns2, hnl2, hpn2, hpl2, hos2, hnz2, hxl2⟩, hps2⟩ := hv2.parts
  change q = vk k z at ek
  change bl o = oA at eo
  change bl n = nA at en
  change k2 = kB at ek2
  change bl o2 = oB at eo2
  change bl n2 = nB at en2
  change RdS w ns (nsA.map bs) at hns
  change RdS w ns2 (nsB.map bs) at hns2
  replace hnl : nsA.length < 4611686018427387904 := by change nsA.length * 16 ≤ 140737488351232 at hnl; omega
  change nsB.length < 4611686018427387904 at hnl2
  change ps.n = psA.length at hpn
  change ps2.n = psB.length at hpn2
  change psA.length < 4611686018427387904 at hpl
  change psB.length < 4611686018427387904 at hpl2
  change VaL w ps.a 0 psA at hps
  change ShL w ps2.a 0 psB at hps2
  have hkq : kOf q = k := by rw [ek, kOf_vk z1 z2]
  have hzq : zOf q = z := by rw [ek, zOf_vk z1 z2]
  have hkr := vform_kind fa
  have hnn2 := hns2.1
  rw [List.length_map] at hnn2
  apply c34
  unfold t34 wrZ ivZ tvZ svZ shZ ldIZ ldSZ ldLZ ld6xZ vaZ nw6Z ld5xZ nw5Z caBZ caIZ jn0Z jnBZ lpIZ ixZ
  refine new_ok fun w1 m11 hm11 hs1 B1 F1 => new_ok fun w2 m12 hm12 hs2 C2 F2 => ?_
  have B2 := B1.fr F2 (fun h => h)
  change Blk w2 m11 _ (vaCells k z o n ns ps) at B2
  change Blk w2 m12 _ (shCells k2 o2 n2 ns2 ps2) at C2
  have F12 := F1.tr F2
  clear B1
  generalize hT : vfitsF (d + 1) (.mk q oA nA nsA psA) (.mk kB oB nB nsB psB) = T
  have done : ∀ {b : Bool} {w' : World}, b = T ∧ Fr noB w w' → retG (.bool b) (fun e w' => e = .returned (.bool T) ∧ Fr noB w w') w' := fun {b w'} ⟨h, F⟩ => ⟨by rw [h], F⟩
  have a0 : ∀ {K : Int → G} {R : Ending → World → Prop} {w' : World}, Fr noB w2 w' → K k R w' → ldG (.int .i64) ⟨m11, 0, none⟩ K R w' := fun F h => (B2.fr F (fun h => h)).ld (c := .int .i64) (o := 0) rfl h
  have a5 : ∀ {K : Sl → G} {R : Ending → World → Prop} {w' : World}, Fr noB w2 w' → K ps R w' → ldG .slice ⟨m11, 5, none⟩ K R w' := fun F h => (B2.fr F (fun h => h)).ldS (o := 5) rfl h
  have c4 : ∀ {K : Sl → G} {R : Ending → World → Prop} {w' : World}, Fr noB w2 w' → K ps2 R w' → ldG .slice ⟨m12, 4, none⟩ K R w' := fun F h => (C2.fr F (fun h => h)).ldS (o := 4) rfl h
  have R0 := Fr.refl noB w2
  have kb : ∀ {c : Int}, (kOf q == c) = (k == c) := fun {c} => by rw [hkq]
  refine C2.ld (c := .int .i64) (x := k2) (o := 0) rfl ?_
  rw [ek2]
  refine join0_ok (fun w' => w' = w2 ∧ kB ≠ 1 ∧ kB ≠ 2 ∧ kB ≠ 3 ∧ kB ≠ 4 ∧ kB ≠ 5 ∧ kB ≠ 6 ∧ kB ≠ 7 ∧ kB ≠ 8 ∧ kB ≠ 10) (fun k14 hk14 => ?_) fun w' ⟨hw, hno⟩ => ?_
  rotate_left
  ·rw [fit0 hno] at hT
   replace hw := hw.symm
   subst hw
   exact ⟨by rw [← hT], F12⟩
  refine ite_ok (fun h4 => ?_) fun h4 => ?_
  ·have h4 : kB = 4 := by simpa using h4
   rw [fit4 h4] at hT
   exact ⟨by rw [← hT], F12⟩
  have h4 : kB ≠ 4 := by simpa using h4
  refine ite_ok (fun h1 => a0 R0 ?_) fun h1 => ?_
  ·have h1 : kB = 1 := by simpa using h1
   rw [fit1 h1, kb] at hT
   exact ⟨by rw [← hT], F12⟩
  have h1 : kB ≠ 1 := by simpa using h1
  refine ite_ok (fun h3 => a0 R0 ?_) fun h3 => ?_
  ·have h3 : kB = 3 := by simpa using h3
   rw [fit3 h3, kb] at hT
   exact ⟨by rw [← hT], F12⟩
  have h3 : kB ≠ 3 := by simpa using h3
  refine ite_ok (fun h2 => a0 R0 ?_) fun h2 => ?_
  ·have h2 : kB = 2 := by simpa using h2
   rw [fit2 h2, kb] at hT
   exact ⟨by rw [← hT], F12⟩
  have h2 : kB ≠ 2 := by simpa using h2
  refine ite_ok (fun h5 => ?_) fun h5 => ?_
  ·have h5 : kB = 5 := by simpa using h5
   rw [fit5 h5, kb] at hT
   obtain ⟨p0, hp0⟩ : ∃ p, psB = [p] := by subst h5; exact fits_list fb
   refine join1_ok (c := .bool) (fun (b : Bool) w' => b = T ∧ Fr noB w w') (fun kj hkj => a0 R0 (ite_ok (fun g => a5 R0 ?_) fun g => hkj _ _ ⟨by rw [← hT, g]; rfl, F12⟩)) fun b w' h => done h
   refine callB_ok (everyV_ok (p := fun x => vfitsF d x p0) (hps.fr F12) hpn hpl ⟨_, _, rfl, resFit1, fun w3 F3 k z o n ns ps s hv hs => ?_⟩) fun w4 F4 => hkj _ _ ⟨?_, F12.tr F4⟩
   ·show AnsB _ #[vaArg k z o n ns ps, .pointer (some ⟨m12, 0, none⟩)] w3 _
    apply c56
    unfold t56 svZ shZ ldLZ ld6mZ vaZ nw6Z ld5xZ caBZ ixZ
    refine new_ok fun w4 m7 hm7 hs4 D4 F4 => drew_ok fun w5 F5 z5 => ?_
    change Blk w4 m7 _ (vaCells k z o n ns ps) at D4
    have D5 := D4.fr F5 (fun h => h)
    have C5 := C2.fr ((F3.tr F4).tr F5) (fun h => h)
    have hds := deep_mem hs
    refine D5.ldW (C5.ldS (o := 4) rfl (part_ld (i := 0) (hps2.fr (F12.tr ((F3.tr F4).tr F5))) (by rw [hp0]; rfl) hpn2 fun k3 o3 n3 ns3 ps3 hv3 => ?_))
    refine callB_ok (pfits_ok d s p0 (by omega) (pa s hs) (pb p0 (by rw [hp0]; simp)) (hv.fr (F4.tr F5)) hv3) fun w6 F6 => ?_
    exact keep_cons ((C5.fr F6 (fun h => h)).held1 (o := 4) rfl) (keep_nil ⟨rfl, (F4.tr F5).tr F6⟩)
   ·rw [← hT, g, hp0]
    rfl
  have h5 : kB ≠ 5 := by simpa using h5
  refine ite_ok (fun h10 => ?_) fun h10 => ?_
  ·have h10 : kB = 10 := by simpa using h10
   rw [fit10 h10, kb] at hT
   refine join1_ok (c := .bool) (fun (b : Bool) w' => b = T ∧ Fr noB w w') (fun kj hkj => a0 R0 (ite_ok (fun g => B2.ld (c := .str) (x := o) (o := 2) rfl (C2.ld (c := .str) (x := o2) (o := 1) rfl ?_)) fun g => hkj _ _ ⟨by rw [← hT, g]; rfl, F12⟩)) fun b w' h => done h
   rw [eq_bl, eo, eo2]
   refine ite_ok (fun g2 => B2.ld (c := .str) (x := n) (o := 3) rfl (C2.ld (c := .str) (x := n2) (o := 2) rfl (hkj _ _ ⟨?_, F12⟩))) fun g2 => hkj _ _ ⟨by rw [← hT, g, g2]; rfl, F12⟩
   rw [eq_bl, en, en2, ← hT, g, g2]
   rfl
  have h10 : kB ≠ 10 := by simpa using h10
  refine ite_ok (fun h8 => ?_) fun h8 => ?_
  ·have h8 : kB = 8 := by simpa using h8
   rw [fit8 h8, kb, hzq] at hT
   have hpos : 0 < psB.length := by subst h8; exact fits_fun fb
   refine join1_ok (c := .bool) (fun (b : Bool) w' => b = T ∧ Fr noB w w') (fun kj hkj => a0 R0 (ite_ok (fun g => B2.ld (c := .int .i64) (x := z) (o := 1) rfl (c4 R0 (hkj _ _ ⟨?_, F12⟩))) fun g => hkj _ _ ⟨by rw [← hT, g]; rfl, F12⟩)) fun b w' h => done h
   rw [← hT, g, Bool.true_and, wrap_ok (by omega) (by omega), Bool.eq_iff_iff, beq_iff_eq, decide_eq_true_eq]
   omega
  have h8 : kB ≠ 8 := by simpa using h8
  refine ite_ok (fun h7 => ?_) fun h7 => ?_
  ·have h7 : kB = 7 := by simpa using h7
   rw [fit7 h7, kb] at hT
   obtain ⟨ln2, nd2⟩ := fits_named fb (.inr h7)
   refine C2.ldS (o := 3) rfl (B2.ld (c := .str) (x := n) (o := 3) rfl (call_ok (indexT_ok n (hns2.fr F12) hnl2) ?_))
   rintro e w3 ⟨i, rfl, F3, hi⟩
   refine ⟨((i, ()), ()), rfl, ?_⟩
   refine join1_ok (c := .bool) (fun (b : Bool) w' => b = T ∧ Fr noB w w') (fun kj hkj => drew_ok fun w4 F4 z4 => a0 (F3.tr F4) (ite_ok (fun g => ?_) fun g => hkj _ _ ⟨by rw [← hT, g]; rfl, F12.tr (F3.tr F4)⟩)) fun b w' h => done h
   have G4 := F12.tr (F3.tr F4)
   rw [g, Bool.true_and] at hT
   have hk6 : kOf q = 6 := by rw [hkq]; simpa using g
   have hl1 := (form6 fa hk6).2.2.2.2
   obtain ⟨x0, hx0⟩ : ∃ x, psA = [x] := by
    match psA, hl1 with
    | [x], _ => exact ⟨x, rfl⟩
   rcases hi with ⟨rfl, hno⟩ | ⟨i, rfl, hyes, _⟩
   ·refine ite_no (decide_eq_false (by omega)) (hkj _ _ ⟨?_, G4⟩)
    have : find nsB psB nA = none := (find_none ln2).2 fun hm => by
     obtain ⟨j, hj⟩ := List.mem_iff_getElem?.1 hm
     exact hno j (by rw [en]; exact hj)
    rw [← hT]
    unfold vcase
    rw [this]
   ·rw [en] at hyes
    have hil := (List.getElem?_eq_some_iff.1 hyes).1
    obtain ⟨p, hp⟩ : ∃ p, psB[i]? = some p := ⟨_, List.getElem?_eq_getElem (by omega)⟩
    have hf : find nsB psB nA = some p := (find_iff nd2).2 ⟨i, hyes, hp⟩
    have hdx := deep_mem (show x0 ∈ psA by rw [hx0]; simp)
    refine ite_yes (decide_eq_true (by omega)) (a5 (F3.tr F4) (vpart_ld (i := 0) (hps.fr G4) (by rw [hx0]; rfl) hpn fun k3 z3 o3 n3 ns3 ps3 hv3 => c4 (F3.tr F4) (part_ld (hps2.fr G4) hp hpn2 fun k4 o4 n4 ns4 ps4 hv4 => ?_)))
    refine callB_ok (pfits_ok d x0 p (by omega) (pa x0 (by rw [hx0]; simp)) (pb p (List.mem_of_getElem? hp)) hv3 hv4) fun w5 F5 => ?_
    have B5 := B2.fr ((F3.tr F4).tr F5) (fun h => h)
    have C5 := C2.fr ((F3.tr F4).tr F5) (fun h => h)
    refine keep_cons (C5.held1 (o := 4) rfl) (keep_cons (B5.held1 (o := 5) rfl) (keep_cons (B5.held1 (o := 0) rfl) (keep_nil (hkj _ _ ⟨?_, G4.tr F5⟩))))
    rw [← hT]
    unfold vcase
    rw [hf, hx0]
  have h7 : kB ≠ 7 := by simpa using h7
  refine ite_ok (fun h6 => a0 R0 ?_) fun h6 => ?_
  rotate_left
  ·have h6 : kB ≠ 6 := by simpa using h6
   exact hk14 _ ⟨rfl, h1, h2, h3, h4, h5, h6, h7, h8, h10⟩
  have h6 : kB = 6 := by simpa using h6
  rw [fit6 h6 hkr, kb] at hT
  obtain ⟨ln2, nd2⟩ := fits_named fb (.inl h6)
  refine ite_ok (fun g => ⟨?_, F12⟩) fun g => ?_
  ·have g : (k == 5) = false := by simpa using g
   rw [← hT, g]
   rfl
  have g : k = 5 := by simpa using g
  rw [g] at hT
  have hk5 : kOf q = 5 := by rw [hkq]; exact g
  obtain ⟨_, _, _, ln, hnames, nd⟩ := form5 fa hk5
  have hnn := hns.1
  rw [List.length_map] at hnn
  refine C2.ldS (o := 3) rfl (join0_ok (fun w' => withinF (fun p x => vfitsF d x p) nsB psB nsA psA = true ∧ Fr noB w2 w') (fun k59 hk59 => ?_) fun w' ⟨h, F⟩ => ⟨by rw [← hT, h]; rfl, F12.tr F⟩)
  refine countL_ok nsB.length (by omega) (fun i w' => (∀ (j : Nat) (m : B) (p : Shape), j < i → nsB[j]? = some m → psB[j]? = some p → ∃ x, find nsA psA m = some x ∧ vfitsF d x p = true) ∧ Fr noB w2 w') (fun rec i w3 hi hI hrec => ?_) ⟨fun j m p h => by omega, Fr.refl _ _⟩
  obtain ⟨hdone, F3⟩ := hI
  have G3 := F12.tr F3
  refine ite_ok (fun hlt => ?_) fun hge => hk59 _ ⟨withinF_iff.2 fun j m p h1 h2 => ?_, F3⟩
  rotate_left
  ·have hge : ¬ (i : Int) < ((ns2.n : Nat) : Int) := of_decide_eq_false hge
   have := (List.getElem?_eq_some_iff.1 h1).1
   exact hdone j m p (by omega) h1 h2
  have hlt : (i : Int) < ((ns2.n : Nat) : Int) := of_decide_eq_true hlt
  obtain ⟨m, hm⟩ : ∃ m, nsB[i]? = some m := ⟨_, List.getElem?_eq_getElem (by omega)⟩
  obtain ⟨p, hp⟩ : ∃ p, psB[i]? = some p := ⟨_, List.getElem?_eq_getElem (by omega)⟩
  have hbad : ∀ {x : Option Shape}, find nsA psA m = x → (∀ y, x = some y → vfitsF d y p = false) → withinF (fun p x => vfitsF d x p) nsB psB nsA psA = false := fun {x} hx hy => by
   rw [Bool.eq_false_iff]
   intro h
   obtain ⟨y, h1, h2⟩ := withinF_iff.1 h i m p hm hp
   rw [hx] at h1
   rw [hy y h1] at h2
   cases h2
  refine join0_ok (fun w' => (∃ x, find nsA psA m = some x ∧ vfitsF d x p = true) ∧ Fr noB w2 w') (fun k62 hk62 => ?_) fun w' ⟨hx, F⟩ => hrec (by omega) _ ⟨fun j m' p' hj h1 h2 => ?_, F⟩
  rotate_left
  ·rcases Nat.lt_succ_iff_lt_or_eq.1 hj with hj | rfl
   ·exact hdone j m' p' hj h1 h2
   ·rw [hm] at h1
    rw [hp] at h2
    cases h1
    cases h2
    exact hx
  refine str_ld (hns2.fr G3) hm ((B2.fr F3 (fun h => h)).ldS (o := 4) rfl (call_ok (indexT_ok (bs m) (hns.fr G3) hnl) ?_))
  rintro e w4 ⟨i2, rfl, F4, hi2⟩
  refine ⟨((i2, ()), ()), rfl, ?_⟩
  rw [bl_bs] at hi2
  have F34 := F3.tr F4
  refine join1_ok (c := .bool) (fun (b : Bool) w' => (b = true → withinF (fun p x => vfitsF d x p) nsB psB nsA psA = false) ∧ (b = false → ∃ x, find nsA psA m = some x ∧ vfitsF d x p = true) ∧ Fr noB w2 w') (fun kj hkj => drew_ok fun w5 F5 z5 => ?_) fun b w' ⟨hb1, hb2, F⟩ => ite_ok (fun h => ⟨by rw [← hT, hb1 h]; rfl, F12.tr F⟩) fun h => hk62 _ ⟨hb2 h, F⟩
  have F35 := F34.tr F5
  have G5 := F12.tr F35
  rcases hi2 with ⟨rfl, hno⟩ | ⟨i2, rfl, hyes, _⟩
  ·refine ite_yes (decide_eq_true (by omega)) (hkj _ _ ⟨fun _ => hbad (x := none) ((find_none ln).2 fun hmm => ?_) (fun y h => by cases h), fun h => (by cases h), F35⟩)
   obtain ⟨j, hj⟩ := List.mem_iff_getElem?.1 hmm
   exact hno j hj
  ·have hil := (List.getElem?_eq_some_iff.1 hyes).1
   obtain ⟨x, hx⟩ : ∃ x, psA[i2]? = some x := ⟨_, List.getElem?_eq_getElem (by omega)⟩
   have hf : find nsA psA m = some x := (find_iff nd).2 ⟨i2, hyes, hx⟩
   have hxm := List.mem_of_getElem? hx
   have hdx := deep_mem hxm
   refine ite_no (decide_eq_false (by omega)) (a5 F35 (vpart_ld (hps.fr G5) hx hpn fun k3 z3 o3 n3 ns3 ps3 hv3 => c4 F35 (part_ld (hps2.fr G5) hp hpn2 fun k4 o4 n4 ns4 ps4 hv4 => ?_)))
   refine callB_ok (pfits_ok d x p (by omega) (pa x hxm) (pb p (List.mem_of_getElem? hp)) hv3 hv4) fun w6 F6 => ?_
   have B6 := B2.fr (F35.tr F6) (fun h => h)
   have C6 := C2.fr (F35.tr F6) (fun h => h)
   refine keep_cons (C6.held1 (o := 4) rfl) (keep_cons (B6.held1 (o := 5) rfl) (keep_nil (hkj _ _ ⟨fun h => hbad hf fun y hy => ?_, fun h => ⟨x, hf, by simpa using h⟩, F35.tr F6⟩)))
   cases hy
   simpa using h
end Go.Proofs.YtngfnokbdcjoeaaGreatDoor
end
section
namespace Go.Proofs.YtngfnokbdcjoeaaGreatDoor
open Go.Lift Go.Lex Go.Shp
end Go.Proofs.YtngfnokbdcjoeaaGreatDoor
end
section
namespace Go.Proofs.YtngfnokbdcjoeaaGreatDoor
open Go.Lift Go.Lex Go.Shp
section
variable {w : World} {v s : Shape} {k z : Int} {o n : ByteArray} {ns ps : Sl} {k2 : Int} {o2 n2 : ByteArray} {ns2 ps2 : Sl}
set_option maxHeartbeats 2000000 in
theorem PFits_ok (hv : VaV w k z o n ns ps v) (hv2 : ShV w k2 o2 n2 ns2 ps2 s) :
  AnsB 19 #[vaArg k z o n ns ps, shArg k2 o2 n2 ns2 ps2] w (isFits v s) := by
 apply c19
 unfold t19 shZ ld5mZ ld6mZ vaZ nw6Z nw5Z caBZ caIZ jnBZ
 refine new_ok fun w1 m10 hm10 hs1 B1 F1 => new_ok fun w2 m11 hm11 hs2 C2 F2 => ?_
 have B2 := B1.fr F2 (fun h => h)
 change Blk w2 m10 _ (vaCells k z o n ns ps) at B2
 change Blk w2 m11 _ (shCells k2 o2 n2 ns2 ps2) at C2
 have F12 := F1.tr F2
 clear B1
 have hsp : isFits v s = (vcheck v == 0 && check s == 0 && vfits v s) := rfl
 refine join1_ok (c := .bool) (fun (b : Bool) w' => b = isFits v s ∧ Fr noB w w') (fun kj hkj => ?_) (fun b w' h => done_b h)
 refine B2.ldW (callI_ok (PCheck_ok (hv.fr F12)) fun w3 F3 => ?_)
 have G3 := F12.tr F3
 refine ite_ok (fun h1 => ?_) fun h1 => hkj _ _ ⟨?_, G3⟩
 ·have h1 : vcheck v = 0 := nat0 h1
  refine (C2.fr F3 (fun h => h)).ldV (callI_ok (scheck_ok scountC snamedC (hv2.fr G3)) fun w4 F4 => ?_)
  have G4 := G3.tr F4
  have H4 := F3.tr F4
  refine ite_ok (fun h2 => ?_) fun h2 => hkj _ _ ⟨?_, G4⟩
  ·have h2 : check s = 0 := nat0 h2
   obtain ⟨_, da, fa⟩ := vcheck_ok.1 h1
   obtain ⟨_, _, fb⟩ := check_ok.1 h2
   refine (B2.fr H4 (fun h => h)).ldW ((C2.fr H4 (fun h => h)).ldV (callB_ok (pfits_ok (deep v) v s (Nat.le_refl _) fa fb (hv.fr G4) (hv2.fr G4)) fun w5 F5 => hkj _ _ ⟨?_, G4.tr F5⟩))
   rw [hsp, h1, h2, vfitsF_vfits (Nat.le_refl _)]
   rfl
  ·have h2 : (check s == 0) = false := by
    rw [beq_eq_false_iff_ne]
    intro e
    rw [e] at h2
    cases h2
   rw [hsp, h2, Bool.and_false]
   rfl
 ·have h1 : (vcheck v == 0) = false := by
   rw [beq_eq_false_iff_ne]
   intro e
   rw [e] at h1
   cases h1
  rw [hsp, h1]
  rfl
end
end Go.Proofs.YtngfnokbdcjoeaaGreatDoor
end
section
namespace Go.Proofs.YtngfnokbdcjoeaaGreatDoor
open Go.Lift Go.Lex Go.Shp
end Go.Proofs.YtngfnokbdcjoeaaGreatDoor
end
section
namespace Go.Proofs.YtngfnokbdcjoeaaGreatDoor
open Go.Lift Go.Lex Go.Shp
def AwakeC : Prop := ∀ {w : World}, GlobV w → AnsB 13 #[] w true
section
variable {w : World} {v v2 s : Shape} {k z : Int} {o n : ByteArray} {ns ps : Sl} {k2 z2 : Int} {o2 n2 : ByteArray} {ns2 ps2 : Sl}
end
section
variable {w : World} {v s : Shape} {k z : Int} {o n : ByteArray} {ns ps : Sl} {k2 : Int} {o2 n2 : ByteArray} {ns2 ps2 : Sl}
end
end Go.Proofs.YtngfnokbdcjoeaaGreatDoor
end
section
namespace Go.Lift
open Go.MapKept
def MapT (w : World) (r : Nat) (L : List (List UInt8 × Int)) : Prop := ∃ (es : Array MapEntry) (clock : Nat), w.heap[r]? = some (.map es clock) ∧ es.toList.map (fun e => (e.key, e.val)) = L.map fun x => (Value.string (bs x.1), Value.int .i64 x.2)
theorem MapT.lt {w : World} {r : Nat} {L : List (List UInt8 × Int)} (h : MapT w r L) : r < w.heap.size := by
 obtain ⟨es, clock, h, _⟩ := h
 exact (Array.getElem?_eq_some_iff.1 h).1
theorem MapT.fr {S : Nat → Prop} {w w' : World} {r : Nat} {L : List (List UInt8 × Int)} (h : MapT w r L) (F : Fr S w w') (hr : ¬ S r) : MapT w' r L := by
 have hl := h.lt
 obtain ⟨es, clock, h, e⟩ := h
 exact ⟨es, clock, (F.blk r hl hr).trans h, e⟩
theorem MapT.keys {es : Array MapEntry} {L : List (List UInt8 × Int)} (e : es.toList.map (fun e => (e.key, e.val)) = L.map fun x => (Value.string (bs x.1), Value.int .i64 x.2)) : ∀ x ∈ es.toList, IsKey .string x.key := by
 intro x hx
 have : (x.key, x.val) ∈ es.toList.map (fun e => (e.key, e.val)) := List.mem_map.2 ⟨x, hx, rfl⟩
 rw [e] at this
 obtain ⟨y, _, hy⟩ := List.mem_map.1 this
 have := congrArg Prod.fst hy
 change Value.string _ = x.key at this
 rw [← this]
 trivial
section
variable {P : Program} {R : Ending → World → Prop} {w : World} {t kt et : TypeId}
end
end Go.Lift
end
section
namespace Go.Lift
open Go.Shp
section
variable {R : Ending → World → Prop} {w : World}
end
end Go.Lift
namespace Go.Shp
open Go.Lex
end Go.Shp
namespace Go.Proofs.YtngfnokbdcjoeaaGreatDoor
open Go.Lift Go.Lex Go.Shp
end Go.Proofs.YtngfnokbdcjoeaaGreatDoor
end
section
namespace Go.Shp
open Go.Lex
end Go.Shp
namespace Go.Proofs.YtngfnokbdcjoeaaGreatDoor
open Go.Lift Go.Lex Go.Shp
end Go.Proofs.YtngfnokbdcjoeaaGreatDoor
end
section
namespace Go.Proofs.YtngfnokbdcjoeaaGreatDoor
open Go.Lift Go.Lex Go.Shp
section
variable {w : World} {v s s' : Shape} {k z : Int} {o n : ByteArray} {ns ps : Sl} {k2 : Int} {o2 n2 : ByteArray} {ns2 ps2 : Sl} {k3 : Int} {o3 n3 : ByteArray} {ns3 ps3 : Sl}
end
end Go.Proofs.YtngfnokbdcjoeaaGreatDoor
end
