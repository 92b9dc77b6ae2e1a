/- The law behind: one part of its proof (joined by program out of my own texts). No condition. -/
import Derived.Test.YticokfpaoiekgaaGreatDoorFdrAU
section
namespace Go.Proofs.YticokfpaoiekgaaGreatDoor
open Go.Lift Go.Lex Go.Shp
theorem callBV_ok {w : World} {R : Ending → World → Prop} {f : FuncId} {args : Array Value} {b : Bool} (hf : (resOf Tryz.prog f).isSome = true) (hc : AnsB f args w b) {k : Bool → G} (h : ∀ w', Fr noB w w' → k b R w') : callVG Tryz.prog (.func (.func f) #[] #[]) args [.one .bool] k R w := by
 refine ⟨f, #[], #[], rfl, hf, ?_⟩
 rw [Array.empty_append, Array.append_empty]
 exact hc.mono fun e w' ⟨he, F⟩ => .inl ⟨((b, ()), ()), he, h w' F⟩
theorem eqRow_ok {w : World} {l0 l1 : Sl} {A B' : List B} (hA : RdS w l0 (A.map bs)) (hB : RdS w l1 (B'.map bs)) (hl : A.length < 4611686018427387904) : AnsB 67 #[.slice l0.a l0.n l0.c, .slice l1.a l1.n l1.c] w (A == B') := by
 have h1 := hA.1
 have h2 := hB.1
 rw [List.length_map] at h1 h2
 apply c67
 unfold t67 wrZ ldSZ jn0Z lpIZ ixZ
 refine ite_ok (fun hne => ⟨?_, Fr.refl _ _⟩) fun he => ?_
 ·have hne : ((l0.n : Nat) : Int) ≠ (l1.n : Nat) := by simpa using hne
  have : (A == B') = false := by
   rw [beq_eq_false_iff_ne]
   rintro rfl
   omega
  rw [this]
 have he : ((l0.n : Nat) : Int) = (l1.n : Nat) := by simpa using he
 refine join0_ok (fun w' => A = B' ∧ Fr noB w w') (fun kend hkend => ?_) fun w' ⟨h, F⟩ => ⟨by rw [h]; simp, F⟩
 refine countL_ok A.length (by omega) (fun i w' => (∀ j, j < i → A[j]? = B'[j]?) ∧ Fr noB w w') (fun rec i w1 hi hI hrec => ?_) ⟨fun j h => by omega, Fr.refl _ _⟩
 obtain ⟨hdone, F1⟩ := hI
 refine ite_ok (fun hlt => ?_) fun hge => hkend _ ⟨?_, F1⟩
 ·have hlt : (i : Int) < (l0.n : Int) := of_decide_eq_true hlt
  obtain ⟨x, hx⟩ : ∃ x, A[i]? = some x := ⟨_, List.getElem?_eq_getElem (by omega)⟩
  obtain ⟨y, hy⟩ : ∃ y, B'[i]? = some y := ⟨_, List.getElem?_eq_getElem (by omega)⟩
  refine join_in (vs := []) (drew_ok fun w2 F2 z2 => str_ld (hA.fr (F1.tr F2)) hx (str_ld (hB.fr (F1.tr F2)) hy ?_))
  rw [eq_bl, bl_bs, bl_bs]
  refine ite_ok (fun hne => ⟨?_, F1.tr F2⟩) fun h => hrec (by omega) _ ⟨fun j hj => ?_, F1.tr F2⟩
  ·have hne : x ≠ y := by simpa using hne
   have : (A == B') = false := by
    rw [beq_eq_false_iff_ne]
    rintro rfl
    rw [hx] at hy
    exact hne (Option.some.inj hy)
   rw [this]
  ·have h : x = y := by simpa using h
   rcases Nat.lt_succ_iff_lt_or_eq.1 hj with hj | rfl
   ·exact hdone j hj
   ·rw [hx, hy, h]
 ·have hge : ¬ (i : Int) < (l0.n : Int) := of_decide_eq_false hge
  apply List.ext_getElem?
  intro j
  by_cases hj : j < i
  ·exact hdone j hj
  ·rw [List.getElem?_eq_none (by omega), List.getElem?_eq_none (by omega)]
theorem resEqual : (resOf Tryz.prog 39).isSome = true := by kernel_rfl
theorem eqFunc_ok {w : World} {l0 l1 : Sl} {A B' : List Shape} (hA : ShL w l0.a 0 A) (hB : ShL w l1.a 0 B') (h1 : l0.n = A.length) (h2 : l1.n = B'.length) (hl : A.length < 4611686018427387904)
  (ih : ∀ x ∈ A, ∀ (y : Shape) {w : World} {k : Int} {o n : ByteArray} {ns ps : Sl} {k2 : Int} {o2 n2 : ByteArray} {ns2 ps2 : Sl}, ShV w k o n ns ps x → ShV w k2 o2 n2 ns2 ps2 y → AnsB 39 #[shArg k o n ns ps, shArg k2 o2 n2 ns2 ps2] w (eqS x y)) :
  AnsB 68 #[.slice l0.a l0.n l0.c, .slice l1.a l1.n l1.c, .func (.func 39) #[] #[]] w (eqL A B') := by
 apply c68
 unfold t68 wrZ shZ ld5mZ ld5xZ st5Z nz5Z jn0Z lpIZ ixZ
 refine ite_ok (fun hne => ⟨?_, Fr.refl _ _⟩) fun he => ?_
 ·have hne : ((l0.n : Nat) : Int) ≠ (l1.n : Nat) := by simpa using hne
  have : eqL A B' = false := by
   rw [Bool.eq_false_iff]
   intro h
   have := eqL_len h
   omega
  rw [this]
 have he : ((l0.n : Nat) : Int) = (l1.n : Nat) := by simpa using he
 refine join0_ok (fun w' => eqL A B' = true ∧ Fr noB w w') (fun kend hkend => ?_) fun w' ⟨h, F⟩ => ⟨by rw [h], F⟩
 refine countL_ok A.length (by omega) (fun i w' => (∀ (j : Nat) (a b : Shape), j < i → A[j]? = some a → B'[j]? = some b → eqS a b = true) ∧ Fr noB w w') (fun rec i w1 hi hI hrec => ?_) ⟨fun j a b h => by omega, Fr.refl _ _⟩
 obtain ⟨hdone, F1⟩ := hI
 refine ite_ok (fun hlt => ?_) fun hge => hkend _ ⟨?_, F1⟩
 ·have hlt : (i : Int) < (l0.n : Int) := of_decide_eq_true hlt
  obtain ⟨x, hx⟩ : ∃ x, A[i]? = some x := ⟨_, List.getElem?_eq_getElem (by omega)⟩
  obtain ⟨y, hy⟩ : ∃ y, B'[i]? = some y := ⟨_, List.getElem?_eq_getElem (by omega)⟩
  refine join_in (vs := []) (part_ld0 hA F1 hx h1 fun k1 o1 n1 ns1 ps1 hv1 => new_ok fun w2 m13 hm13 hs2 B2 F2 => fill_ok B2 rfl rfl rfl rfl rfl rfl fun w3 B3 F3 => ?_)
  have G3 : Fr noB w w3 := (F1.tr F2).fill (by have := F1.size; omega) F3
  change Blk w3 m13 _ (shCells k1 o1 n1 ns1 ps1) at B3
  refine part_ld0 hB G3 hy h2 fun k2 o2 n2 ns2 ps2 hv2 => new_ok fun w4 m20 hm20 hs4 C4 F4 => fill_ok C4 rfl rfl rfl rfl rfl rfl fun w5 C5 F5 => ?_
  change Blk w5 m20 _ (shCells k2 o2 n2 ns2 ps2) at C5
  have G5 : Fr noB w w5 := (G3.tr F4).fill (by have := G3.size; omega) F5
  have hlt3 := B3.lt
  have B5 := (B3.fr F4 (fun h => h)).fr F5 (fun h => by unfold oneB at h; omega)
  refine B5.ldV (C5.ldV (callBV_ok resEqual (ih x (List.mem_of_getElem? hx) y (hv1.fr G5) (hv2.fr G5)) fun w6 F6 => ?_))
  refine ite_ok (fun hne => ⟨?_, G5.tr F6⟩) fun h => hrec (by omega) _ ⟨fun j a b hj ha hb => ?_, G5.tr F6⟩
  ·have hne : eqS x y = false := by simpa using hne
   have : eqL A B' = false := by
    rw [Bool.eq_false_iff]
    intro h
    rw [eqL_at h hx hy] at hne
    cases hne
   rw [this]
  ·have h : eqS x y = true := by simpa using h
   rcases Nat.lt_succ_iff_lt_or_eq.1 hj with hj | rfl
   ·exact hdone j a b hj ha hb
   ·rw [hx] at ha
    rw [hy] at hb
    cases ha
    cases hb
    exact h
 ·have hge : ¬ (i : Int) < (l0.n : Int) := of_decide_eq_false hge
  refine eqL_of (by omega) fun j a b ha hb => ?_
  have := (List.getElem?_eq_some_iff.1 ha).1
  exact hdone j a b (by omega) ha hb
theorem sequal_ok : ∀ (d : Nat) (s s' : Shape), size s ≤ d → ∀ {w : World} {k : Int} {o n : ByteArray} {ns ps : Sl} {k2 : Int} {o2 n2 : ByteArray} {ns2 ps2 : Sl}, ShV w k o n ns ps s → ShV w k2 o2 n2 ns2 ps2 s' →
  AnsB 39 #[shArg k o n ns ps, shArg k2 o2 n2 ns2 ps2] w (eqS s s')
 | 0, s, _, h, _, _, _, _, _, _, _, _, _, _, _, _, _ => by have := size_pos s; omega
 | d + 1, .mk kA oA nA nsA psA, .mk kB oB nB nsB psB, hd, w, k, o, n, ns, ps, k2, o2, n2, ns2, ps2, hv, hv2 => by
  rw [size_mk] at hd
  obtain ⟨ek, eo, en, ⟨hns, hnl, hpn, hpl, _⟩, hps⟩ := hv.parts
  obtain ⟨ek2, eo2, en2, ⟨hns2, hnl2, hpn2, hpl2, _⟩, hps2⟩ := hv2.parts
  change k = kA at ek
  change bl o = oA at eo
  change bl n = nA at en
  change k2 = kB at ek2
  change bl o2 = oB at eo2
  change bl n2 = nB at en2
  change RdS w ns (nsA.map bs) at hns
  change RdS w ns2 (nsB.map bs) at hns2
  change nsA.length < 4611686018427387904 at hnl
  change ps.n = psA.length at hpn
  change ps2.n = psB.length at hpn2
  change psA.length < 4611686018427387904 at hpl
  change ShL w ps.a 0 psA at hps
  change ShL w ps2.a 0 psB at hps2
  have heq : eqS (.mk kA oA nA nsA psA) (.mk kB oB nB nsB psB) = (decide (kA = kB) && oA == oB && nA == nB && nsA == nsB && eqL psA psB) := by rw [eqS]
  apply c39
  unfold t39 svZ ldIZ ldSZ ldLZ nw5Z caBZ jnBZ
  refine new_ok fun w1 m10 hm10 hs1 B1 F1 => new_ok fun w2 m11 hm11 hs2 C2 F2 => ?_
  have B2 := B1.fr F2 (fun h => h)
  change Blk w2 m10 _ (shCells k o n ns ps) at B2
  change Blk w2 m11 _ (shCells k2 o2 n2 ns2 ps2) at C2
  have F12 := F1.tr F2
  clear B1
  generalize hT : eqS (.mk kA oA nA nsA psA) (.mk kB oB nB nsB psB) = T at heq
  refine join1_ok (c := .bool) (fun (b : Bool) w' => b = T ∧ Fr noB w w') (fun kj hkj => ?_) (fun b w' h => done_b h)
  refine B2.ld (c := .int .i64) (x := k) (o := 0) rfl (C2.ld (c := .int .i64) (x := k2) (o := 0) rfl ?_)
  rw [ek, ek2]
  refine ite_ok (fun h1 => B2.ld (c := .str) (x := o) (o := 1) rfl (C2.ld (c := .str) (x := o2) (o := 1) rfl ?_)) fun h1 => hkj _ _ ⟨?_, F12⟩
  rotate_left
  ·have h1 : kA ≠ kB := by simpa using h1
   rw [heq, decide_eq_false h1]
   rfl
  have h1 : kA = kB := by simpa using h1
  rw [eq_bl, eo, eo2]
  refine ite_ok (fun h2 => B2.ld (c := .str) (x := n) (o := 2) rfl (C2.ld (c := .str) (x := n2) (o := 2) rfl ?_)) fun h2 => hkj _ _ ⟨by rw [heq, h2, Bool.and_false]; rfl, F12⟩
  rw [eq_bl, en, en2]
  refine ite_ok (fun h3 => B2.ldS (o := 3) rfl (C2.ldS (o := 3) rfl (callB_ok (eqRow_ok (hns.fr F12) (hns2.fr F12) hnl) fun w3 F3 => ?_))) fun h3 => hkj _ _ ⟨by rw [heq, h3, Bool.and_false]; rfl, F12⟩
  have G3 := F12.tr F3
  refine ite_ok (fun h4 => (B2.fr F3 (fun h => h)).ldS (o := 4) rfl ((C2.fr F3 (fun h => h)).ldS (o := 4) rfl (callB_ok (eqFunc_ok (hps.fr G3) (hps2.fr G3) hpn hpn2 hpl fun x hx y => ?_) fun w4 F4 => hkj _ _ ⟨?_, G3.tr F4⟩))) fun h4 => hkj _ _ ⟨by rw [heq, h4, Bool.and_false]; rfl, G3⟩
  ·have := size_mem hx
   exact fun {_ _ _ _ _ _ _ _ _ _ _} hv3 hv4 => sequal_ok d x y (by omega) hv3 hv4
  ·rw [heq, decide_eq_true h1, h2, h3, h4]
   rfl
end Go.Proofs.YticokfpaoiekgaaGreatDoor
end
section
namespace Go.Shp
open Go.Lex
mutual
def allS (p : Shape → Bool) : Shape → Bool
 | .mk k o n ns ps => p (.mk k o n ns ps) && allSL p ps
def allSL (p : Shape → Bool) : List Shape → Bool
 | [] => true
 | s :: r => allS p s && allSL p r
end
mutual
theorem allS_fits : ∀ s : Shape, allS fits s = allFit s
 | .mk k o n ns ps => by rw [allS, allFit, allSL_fits ps]
theorem allSL_fits : ∀ l : List Shape, allSL fits l = allFits l
 | [] => by rw [allSL, allFits]
 | s :: r => by rw [allSL, allFits, allS_fits s, allSL_fits r]
end
theorem allSL_mem {p : Shape → Bool} : ∀ {l : List Shape} {s : Shape}, allSL p l = true → s ∈ l → allS p s = true
 | x :: r, s, h, hs => by
  rw [allSL, Bool.and_eq_true] at h
  rcases List.mem_cons.1 hs with rfl | hs
  ·exact h.1
  ·exact allSL_mem h.2 hs
theorem allSL_of {p : Shape → Bool} : ∀ {l : List Shape}, (∀ s ∈ l, allS p s = true) → allSL p l = true
 | [], _ => by rw [allSL]
 | x :: r, h => by rw [allSL, h x (List.mem_cons_self ..), allSL_of fun s hs => h s (List.mem_cons_of_mem _ hs)]; rfl
end Go.Shp
namespace Go.Proofs.YticokfpaoiekgaaGreatDoor
open Go.Lift Go.Lex Go.Shp
def PredS (M : Nat) (fv : Value) (p : Shape → Bool) : Prop := ∃ f, fv = .func (.func f) #[] #[] ∧ (resOf Tryz.prog f).isSome = true ∧ ∀ (s : Shape), size s ≤ M → ∀ {w : World} {k : Int} {o n : ByteArray} {ns ps : Sl}, ShV w k o n ns ps s → AnsB f #[shArg k o n ns ps] w (p s)
theorem callPS_ok {w : World} {R : Ending → World → Prop} {M : Nat} {fv : Value} {p : Shape → Bool} (hp : PredS M fv p) {s : Shape} (hM : size s ≤ M) {k : Int} {o n : ByteArray} {ns ps : Sl} (hv : ShV w k o n ns ps s) {K : Bool → G} (h : ∀ w', Fr noB w w' → K (p s) R w') : callVG Tryz.prog fv #[shArg k o n ns ps] [.one .bool] K R w := by
 obtain ⟨f, rfl, hr, hf⟩ := hp
 exact callBV_ok hr (hf s hM hv) h
theorem sall_ok {M : Nat} {fv : Value} {p : Shape → Bool} (hp : PredS M fv p) : ∀ (d : Nat) (s : Shape), size s ≤ d → d ≤ M → ∀ {w : World} {k : Int} {o n : ByteArray} {ns ps : Sl}, ShV w k o n ns ps s →
  AnsB 61 #[shArg k o n ns ps, fv] w (allS p s)
 | 0, s, h, _, _, _, _, _, _, _, _ => by have := size_pos s; omega
 | d + 1, .mk k' o' n' names parts, hd, hM, w, k, o, n, ns, ps, hv => by
  rw [size_mk] at hd
  obtain ⟨_, _, _, ⟨_, _, hpn, hpl, _⟩, hps⟩ := hv.parts
  change ps.n = parts.length at hpn
  change parts.length < 4611686018427387904 at hpl
  change ShL w ps.a 0 parts at hps
  apply c61
  unfold t61 wrZ shZ ldLZ ld5mZ ld5xZ st5Z nw5Z nz5Z caBZ jn0Z lpIZ ixZ
  refine new_ok fun w1 m6 hm6 hs1 B1 F1 => ?_
  change Blk w1 m6 _ (shCells k o n ns ps) at B1
  refine B1.ldV (callPS_ok hp (by rw [size_mk]; omega) (hv.fr F1) fun w2 F2 => ?_)
  have F12 := F1.tr F2
  have hall : allS p (.mk k' o' n' names parts) = (p (.mk k' o' n' names parts) && allSL p parts) := by rw [allS]
  rw [hall]
  by_cases hf : p (.mk k' o' n' names parts) = true
  rotate_left
  ·have hf : p (.mk k' o' n' names parts) = false := by simpa using hf
   exact ite_yes (by rw [hf]; rfl) ⟨by rw [hf]; rfl, F12⟩
  rw [hf, Bool.true_and]
  refine ite_no rfl ((B1.fr F2 (fun h => h)).ldS (o := 4) rfl ?_)
  refine join0_ok (fun w' => allSL p parts = true ∧ Fr noB w w') (fun kend hkend => ?_) (fun w' ⟨h, F⟩ => ⟨by rw [h], F⟩)
  refine countL_ok parts.length (by omega) (fun i w' => (∀ (j : Nat) s, j < i → parts[j]? = some s → allS p s = true) ∧ Fr noB w w') (fun rec i w3 hi hI hrec => ?_) ⟨fun j s h => by omega, F12⟩
  obtain ⟨hdone, F3⟩ := hI
  refine ite_ok (fun hlt => ?_) fun hge => hkend _ ⟨allSL_of fun s hs => ?_, F3⟩
  ·have hlt : (i : Int) < (ps.n : Int) := of_decide_eq_true hlt
   obtain ⟨s, hs⟩ : ∃ s, parts[i]? = some s := ⟨_, List.getElem?_eq_getElem (by omega)⟩
   have hsz := size_mem (List.mem_of_getElem? hs)
   refine join_in (vs := []) (part_ld0 hps F3 hs hpn fun k1 o1 n1 ns1 ps1 hv1 => new_ok fun w4 m24 hm24 hs4 B4 F4 => fill_ok B4 rfl rfl rfl rfl rfl rfl fun w5 B5 F5 => ?_)
   have G5 : Fr noB w w5 := (F3.tr F4).fill (by have := F3.size; omega) F5
   change Blk w5 m24 _ (shCells k1 o1 n1 ns1 ps1) at B5
   refine B5.ldV (callB_ok (sall_ok hp d s (by omega) (by omega) (hv1.fr G5)) fun w6 F6 => ?_)
   by_cases hok : allS p s = true
   ·refine ite_no (by rw [hok]; rfl) (hrec (by omega) _ ⟨fun j x hj hx => ?_, G5.tr F6⟩)
    rcases Nat.lt_succ_iff_lt_or_eq.1 hj with hj | rfl
    ·exact hdone j x hj hx
    ·rw [hs] at hx
     cases hx
     exact hok
   ·refine ite_yes (by simpa using hok) ⟨?_, G5.tr F6⟩
    have : allSL p parts = false := by
     rw [Bool.eq_false_iff]
     intro h
     exact hok (allSL_mem h (List.mem_of_getElem? hs))
    rw [this]
  ·have hge : ¬ (i : Int) < (ps.n : Int) := of_decide_eq_false hge
   obtain ⟨j, hj⟩ := List.mem_iff_getElem?.1 hs
   have := (List.getElem?_eq_some_iff.1 hj).1
   exact hdone j s (by omega) hj
theorem splain_ok (x : ByteArray) {w : World} : AnsB 92 #[.string x] w (plainT (bl x)) := by
 apply c92
 unfold t92 jnBZ
 have hp : plainT (bl x) = ((bl x) == [73, 110, 116] || (bl x) == [66, 111, 111, 108] || (bl x) == [84, 101, 120, 116] || (bl x) == [65, 110, 121]) := rfl
 refine join1_ok (c := .bool) (fun (b : Bool) w' => b = plainT (bl x) ∧ Fr noB w w') (fun kj hkj => ?_) (fun b w' h => done_b h)
 have R0 := Fr.refl noB w
 rw [eq_bl, show bl (ByteArray.mk #[(73 : UInt8), (110 : UInt8), (116 : UInt8)]) = [73, 110, 116] from rfl]
 refine ite_ok (fun h => hkj _ _ ⟨by rw [hp, h]; rfl, R0⟩) fun h1 => ?_
 rw [eq_bl, show bl (ByteArray.mk #[(66 : UInt8), (111 : UInt8), (111 : UInt8), (108 : UInt8)]) = [66, 111, 111, 108] from rfl]
 refine ite_ok (fun h => hkj _ _ ⟨by rw [hp, h1, h]; rfl, R0⟩) fun h2 => ?_
 rw [eq_bl, show bl (ByteArray.mk #[(84 : UInt8), (101 : UInt8), (120 : UInt8), (116 : UInt8)]) = [84, 101, 120, 116] from rfl]
 refine ite_ok (fun h => hkj _ _ ⟨by rw [hp, h1, h2, h]; rfl, R0⟩) fun h3 => hkj _ _ ⟨?_, R0⟩
 rw [eq_bl, show bl (ByteArray.mk #[(65 : UInt8), (110 : UInt8), (121 : UInt8)]) = [65, 110, 121] from rfl, hp, h1, h2, h3]
 rfl
end Go.Proofs.YticokfpaoiekgaaGreatDoor
end
section
namespace Go.Shp
theorem plainL_any : ∀ l : List Shape, plainL l = !l.any (fun s => !plainS s)
 | [] => by rw [plainL]; rfl
 | s :: r => by
  rw [plainL, plainL_any r, List.any_cons]
  cases plainS s <;> simp
end Go.Shp
namespace Go.Proofs.YticokfpaoiekgaaGreatDoor
open Go.Lift Go.Lex Go.Shp
theorem indexS_ok {w : World} {l0 : Sl} {L : List Shape} {f : FuncId} {p : Shape → Bool} (hL : ShL w l0.a 0 L) (h0 : l0.n = L.length) (hl : L.length < 4611686018427387904) (hr : (resOf Tryz.prog f).isSome = true)
  (hf : ∀ s ∈ L, ∀ {w : World} {k : Int} {o n : ByteArray} {ns ps : Sl}, ShV w k o n ns ps s → AnsB f #[shArg k o n ns ps] w (p s)) :
  Calls Tryz.prog 95 #[.slice l0.a l0.n l0.c, .func (.func f) #[] #[]] w fun e w' => ∃ n : Int, e = .returned (.int .i64 n) ∧ decide (n ≥ 0) = L.any p ∧ Fr noB w w' := by
 apply c95
 unfold t95 wrZ ivZ shZ ld5xZ jn0Z lpIZ ixZ
 refine join0_ok (fun w' => L.any p = false ∧ Fr noB w w') (fun kend hkend => ?_) (fun w' ⟨h, F⟩ => ⟨-1, rfl, by rw [h]; rfl, F⟩)
 refine countL_ok L.length (by omega) (fun i w' => (∀ (j : Nat) s, j < i → L[j]? = some s → p s = false) ∧ Fr noB w w') (fun rec i w1 hi hI hrec => ?_) ⟨fun j s h => by omega, Fr.refl _ _⟩
 obtain ⟨hdone, F1⟩ := hI
 refine ite_ok (fun hlt => ?_) fun hge => hkend _ ⟨?_, F1⟩
 ·have hlt : (i : Int) < (l0.n : Int) := of_decide_eq_true hlt
  obtain ⟨s, hs⟩ : ∃ s, L[i]? = some s := ⟨_, List.getElem?_eq_getElem (by omega)⟩
  have hm := List.mem_of_getElem? hs
  refine join_in (vs := []) (part_ld0 hL F1 hs h0 fun k1 o1 n1 ns1 ps1 hv1 => callBV_ok hr (hf s hm (hv1.fr F1)) fun w2 F2 => ?_)
  refine ite_ok (fun hp => ⟨(i : Int), rfl, ?_, F1.tr F2⟩) fun hp => hrec (by omega) _ ⟨fun j x hj hx => ?_, F1.tr F2⟩
  ·rw [decide_eq_true (by omega)]
   exact (List.any_eq_true.2 ⟨s, hm, hp⟩).symm
  ·rcases Nat.lt_succ_iff_lt_or_eq.1 hj with hj | rfl
   ·exact hdone j x hj hx
   ·rw [hs] at hx
    cases hx
    exact hp
 ·have hge : ¬ (i : Int) < (l0.n : Int) := of_decide_eq_false hge
  rw [List.any_eq_false]
  intro s hs
  obtain ⟨j, hj⟩ := List.mem_iff_getElem?.1 hs
  have := (List.getElem?_eq_some_iff.1 hj).1
  rw [hdone j s (by omega) hj]
  exact Bool.false_ne_true
theorem containsS_ok {w : World} {l0 : Sl} {L : List Shape} {f : FuncId} {p : Shape → Bool} (hL : ShL w l0.a 0 L) (h0 : l0.n = L.length) (hl : L.length < 4611686018427387904) (hr : (resOf Tryz.prog f).isSome = true)
  (hf : ∀ s ∈ L, ∀ {w : World} {k : Int} {o n : ByteArray} {ns ps : Sl}, ShV w k o n ns ps s → AnsB f #[shArg k o n ns ps] w (p s)) :
  AnsB 65 #[.slice l0.a l0.n l0.c, .func (.func f) #[] #[]] w (L.any p) := by
 apply c65
 unfold t65 svZ caIZ
 refine call_ok (indexS_ok hL h0 hl hr hf) ?_
 rintro e w' ⟨n, rfl, hn, F⟩
 exact ⟨((n, ()), ()), rfl, by rw [← hn], F⟩
theorem resPlain1 : (resOf Tryz.prog 66).isSome = true := by kernel_rfl
theorem gplain_ok : ∀ (d : Nat) (s : Shape), size s ≤ d → ∀ {w : World} {k : Int} {o n : ByteArray} {ns ps : Sl}, ShV w k o n ns ps s → AnsB 38 #[shArg k o n ns ps] w (plainS s)
 | 0, s, h, _, _, _, _, _, _, _ => by have := size_pos s; omega
 | d + 1, .mk k' o' n' names parts, hd, w, k, o, n, ns, ps, hv => by
  rw [size_mk] at hd
  obtain ⟨ek, _, _, ⟨_, _, hpn, hpl, _⟩, hps⟩ := hv.parts
  change k = k' at ek
  change ps.n = parts.length at hpn
  change parts.length < 4611686018427387904 at hpl
  change ShL w ps.a 0 parts at hps
  apply c38
  unfold t38 svZ ldIZ ldLZ nw5Z caBZ jnBZ
  refine new_ok fun w1 m5 hm5 hs1 B1 F1 => ?_
  change Blk w1 m5 _ (shCells k o n ns ps) at B1
  have hsp : plainS (.mk k' o' n' names parts) = (decide (k' ≠ 4) && plainL parts) := by rw [plainS]
  refine join1_ok (c := .bool) (fun (b : Bool) w' => b = plainS (.mk k' o' n' names parts) ∧ Fr noB w w') (fun kj hkj => ?_) (fun b w' h => done_b h)
  refine B1.ld (c := .int .i64) (x := k) (o := 0) rfl (ite_ok (fun h => ?_) fun h => hkj _ _ ⟨?_, F1⟩)
  ·have h : k' ≠ 4 := by rw [← ek]; simpa using h
   refine B1.ldS (o := 4) rfl (callB_ok (containsS_ok (p := fun s => !plainS s) (hps.fr F1) hpn hpl resPlain1 fun x hx => ?_) fun w2 F2 => hkj _ _ ⟨?_, F1.tr F2⟩)
   ·intro w k1 o1 n1 ns1 ps1 hv1
    have hsz := size_mem hx
    apply c66
    unfold t66 shZ ld5mZ nw5Z caBZ
    refine new_ok fun w3 m6 hm6 hs3 B3 F3 => ?_
    change Blk w3 m6 _ (shCells k1 o1 n1 ns1 ps1) at B3
    exact B3.ldV (callB_ok (gplain_ok d x (by omega) (hv1.fr F3)) fun w4 F4 => ⟨rfl, F3.tr F4⟩)
   ·rw [hsp, decide_eq_true h, Bool.true_and, plainL_any]
  ·have h : k' = 4 := by rw [← ek]; simpa using h
   rw [hsp, decide_eq_false (by simpa using h), Bool.false_and]
end Go.Proofs.YticokfpaoiekgaaGreatDoor
end
section
namespace Go.Proofs.YticokfpaoiekgaaGreatDoor
open Go.Lift Go.Lex Go.Shp
def NamedC : Prop := ∀ {w : World} {k : Int} {o n : ByteArray} {ns ps : Sl} {s : Shape}, ShV w k o n ns ps s → s.parts.length ≤ 1000 → AnsB 90 #[shArg k o n ns ps] w (namedOk s.names s.parts.length)
set_option maxHeartbeats 2000000 in
theorem sfits_ok (hN : NamedC) {w : World} {s : Shape} {k : Int} {o n : ByteArray} {ns ps : Sl} (hv : ShV w k o n ns ps s) (hM : s.parts.length ≤ 1000) : AnsB 62 #[shArg k o n ns ps] w (fits s) := by
 obtain ⟨k', o', n', names, parts⟩ := s
 obtain ⟨rfl, rfl, rfl, ⟨hns, hnl, hpn, hpl, hos, hnz, hxl⟩, hps⟩ := hv.parts
 change RdS w ns (names.map bs) at hns
 change ps.n = parts.length at hpn
 have hnn := hns.1
 rw [List.length_map] at hnn
 have hnm := @hN
 change parts.length ≤ 1000 at hM
 apply c62
 unfold t62 tvZ shZ ldIZ ldSZ ldLZ ld5mZ nw5Z caBZ jn0Z jnBZ
 refine new_ok fun w1 m5 hm5 hs1 B1 F1 => ?_
 change Blk w1 m5 _ (shCells k o n ns ps) at B1
 have d1 : ∀ {K : ByteArray → G} {R : Ending → World → Prop} {w' : World}, Fr noB w1 w' → K o R w' → ldG .str ⟨m5, 1, none⟩ K R w' := fun F h => (B1.fr F (fun h => h)).ld (c := .str) (o := 1) rfl h
 have d2 : ∀ {K : ByteArray → G} {R : Ending → World → Prop} {w' : World}, Fr noB w1 w' → K n R w' → ldG .str ⟨m5, 2, none⟩ K R w' := fun F h => (B1.fr F (fun h => h)).ld (c := .str) (o := 2) rfl h
 have d3 : ∀ {K : Sl → G} {R : Ending → World → Prop} {w' : World}, Fr noB w1 w' → K ns R w' → ldG .slice ⟨m5, 3, none⟩ K R w' := fun F h => (B1.fr F (fun h => h)).ldS (o := 3) rfl h
 have d4 : ∀ {K : Sl → G} {R : Ending → World → Prop} {w' : World}, Fr noB w1 w' → K ps R w' → ldG .slice ⟨m5, 4, none⟩ K R w' := fun F h => (B1.fr F (fun h => h)).ldS (o := 4) rfl h
 have e3 : (((ns.n : Nat) : Int) == 0) = names.isEmpty := by rw [hnn]; exact len0 names
 have e4 : (((ps.n : Nat) : Int) == 0) = parts.isEmpty := by rw [hpn]; exact len0 parts
 have R0 := Fr.refl noB w1
 generalize hT : fits (.mk k (bl o) (bl n) names parts) = T
 have hfit : T = (if k = 1 ∨ k = 2 ∨ k = 3 ∨ k = 4 then (bl o).isEmpty && (bl n).isEmpty && names.isEmpty && parts.isEmpty
  else if k = 5 then (bl o).isEmpty && (bl n).isEmpty && names.isEmpty && decide (parts.length = 1)
  else if k = 6 ∨ k = 7 then (bl o).isEmpty && (bl n).isEmpty && namedOk names parts.length
  else if k = 8 then (bl o).isEmpty && (bl n).isEmpty && names.isEmpty && decide (0 < parts.length)
  else if k = 9 then isUpper (bl n) && (((bl o).isEmpty && !plainT (bl n)) || isName (bl o)) && names.isEmpty && parts.isEmpty
  else if k = 10 then isUpper (bl n) && isName (bl o) && names.isEmpty && parts.isEmpty
  else false) := by rw [← hT]; rfl
 refine join1_ok (c := .bool) (fun (b : Bool) w' => b = ((bl o).isEmpty && (bl n).isEmpty) ∧ w' = w1) (fun kj hkj => d1 R0 ?_) ?_
 ·rw [emp_bl]
  refine ite_ok (fun h => d2 R0 (hkj _ _ ⟨?_, rfl⟩)) fun h => hkj _ _ ⟨by rw [h]; rfl, rfl⟩
  rw [emp_bl, h]
  rfl
 rintro b w2 ⟨rfl, hw⟩
 replace hw := hw.symm
 subst hw
 generalize hB : ((bl o).isEmpty && (bl n).isEmpty) = bare at hfit
 refine B1.ld (c := .int .i64) (x := k) (o := 0) rfl (join_in (vs := []) ?_)
 have key : ∀ (p : Prop) [Decidable p] {x : Bool}, x = true → (x = true ↔ p) → x = decide p := fun p _ x hx h => by rw [hx, decide_eq_true (h.1 hx)]
 refine join1_ok (c := .bool) (fun (b : Bool) w' => b = decide (k = 1 ∨ k = 2 ∨ k = 3 ∨ k = 4) ∧ w' = w1) (fun kj hkj => ite_ok (fun h => hkj _ _ ⟨?_, rfl⟩) fun h1 => join_in (vs := [.one .bool]) (ite_ok (fun h => hkj _ _ ⟨?_, rfl⟩) fun h2 => join_in (vs := [.one .bool]) (ite_ok (fun h => hkj _ _ ⟨?_, rfl⟩) fun h3 => hkj _ _ ⟨?_, rfl⟩))) ?_
 ·rw [Bool.eq_iff_iff, beq_iff_eq, decide_eq_true_eq]
  have h : k = 1 := by simpa using h
  omega
 ·rw [Bool.eq_iff_iff, beq_iff_eq, decide_eq_true_eq]
  have h : k = 2 := by simpa using h
  omega
 ·rw [Bool.eq_iff_iff, beq_iff_eq, decide_eq_true_eq]
  have h : k = 3 := by simpa using h
  omega
 ·have h1 : ¬ k = 1 := by simpa using h1
  have h2 : ¬ k = 2 := by simpa using h2
  have h3 : ¬ k = 3 := by simpa using h3
  rw [Bool.eq_iff_iff, beq_iff_eq, decide_eq_true_eq]
  omega
 rintro b w2 ⟨rfl, hw⟩
 replace hw := hw.symm
 subst hw
 -- the tail that four of the kinds share
 refine ite_ok (fun h => ?_) fun h14 => ?_
 ·have h : k = 1 ∨ k = 2 ∨ k = 3 ∨ k = 4 := of_decide_eq_true h
  rw [if_pos h] at hfit
  refine join1_ok (c := .bool) (fun (b : Bool) w' => b = T ∧ Fr noB w w') (fun kj hkj => ite_ok (fun hb => d3 R0 ?_) fun hb => hkj _ _ ⟨by rw [hfit, hb]; rfl, F1⟩) (fun b w' h => done_b h)
  rw [e3]
  refine ite_ok (fun hb3 => d4 R0 (hkj _ _ ⟨?_, F1⟩)) fun hb3 => hkj _ _ ⟨by rw [hfit, hb3]; simp, F1⟩
  rw [e4, hfit, hb, hb3]
  rfl
 have h14 : ¬ (k = 1 ∨ k = 2 ∨ k = 3 ∨ k = 4) := of_decide_eq_false h14
 rw [if_neg h14] at hfit
 refine ite_ok (fun h5 => ?_) fun h5 => ?_
 ·have h5 : k = 5 := by simpa using h5
  rw [if_pos h5] at hfit
  refine join1_ok (c := .bool) (fun (b : Bool) w' => b = T ∧ Fr noB w w') (fun kj hkj => ite_ok (fun hb => d3 R0 ?_) fun hb => hkj _ _ ⟨by rw [hfit, hb]; rfl, F1⟩) (fun b w' h => done_b h)
  rw [e3]
  refine ite_ok (fun hb3 => d4 R0 (hkj _ _ ⟨?_, F1⟩)) fun hb3 => hkj _ _ ⟨by rw [hfit, hb3]; simp, F1⟩
  rw [hfit, hb, hb3, Bool.true_and, Bool.true_and, Bool.eq_iff_iff, beq_iff_eq, decide_eq_true_eq]
  omega
 have h5 : ¬ k = 5 := by simpa using h5
 rw [if_neg (c := k = 5) h5] at hfit
 refine join1_ok (c := .bool) (fun (b : Bool) w' => b = decide (k = 6 ∨ k = 7) ∧ w' = w1) (fun kj hkj => ite_ok (fun h => hkj _ _ ⟨?_, rfl⟩) fun h6 => hkj _ _ ⟨?_, rfl⟩) ?_
 ·rw [Bool.eq_iff_iff, beq_iff_eq, decide_eq_true_eq]
  have h : k = 6 := by simpa using h
  omega
 ·have h6 : ¬ k = 6 := by simpa using h6
  rw [Bool.eq_iff_iff, beq_iff_eq, decide_eq_true_eq]
  omega
 rintro b w2 ⟨rfl, hw⟩
 replace hw := hw.symm
 subst hw
 refine ite_ok (fun h => ?_) fun h67 => ?_
 ·have h : k = 6 ∨ k = 7 := of_decide_eq_true h
  rw [if_pos h] at hfit
  refine join1_ok (c := .bool) (fun (b : Bool) w' => b = T ∧ Fr noB w w') (fun kj hkj => ite_ok (fun hb => B1.ldV (callB_ok (hnm (hv.fr F1) hM) fun w3 F3 => hkj _ _ ⟨?_, F1.tr F3⟩)) fun hb => hkj _ _ ⟨by rw [hfit, hb]; rfl, F1⟩) (fun b w' h => done_b h)
  rw [hfit, hb]
  rfl
 have h67 : ¬ (k = 6 ∨ k = 7) := of_decide_eq_false h67
 rw [if_neg h67] at hfit
 refine ite_ok (fun h8 => ?_) fun h8 => ?_
 ·have h8 : k = 8 := by simpa using h8
  rw [if_pos h8] at hfit
  refine join1_ok (c := .bool) (fun (b : Bool) w' => b = T ∧ Fr noB w w') (fun kj hkj => ite_ok (fun hb => d3 R0 ?_) fun hb => hkj _ _ ⟨by rw [hfit, hb]; rfl, F1⟩) (fun b w' h => done_b h)
  rw [e3]
  refine ite_ok (fun hb3 => d4 R0 (hkj _ _ ⟨?_, F1⟩)) fun hb3 => hkj _ _ ⟨by rw [hfit, hb3]; simp, F1⟩
  rw [hfit, hb, hb3, Bool.true_and, Bool.true_and]
  exact decide_eq_decide.2 (by omega)
 have h8 : ¬ k = 8 := by simpa using h8
 rw [if_neg (c := k = 8) h8] at hfit
 refine ite_ok (fun h9 => ?_) fun h9 => ?_
 ·have h9 : k = 9 := by simpa using h9
  rw [if_pos h9] at hfit
  refine join1_ok (c := .bool) (fun (b : Bool) w' => b = T ∧ Fr noB w w') (fun kj hkj => d2 R0 (callB_ok (Upper_ok n hnz) fun w3 F3 => ite_ok (fun hu => d1 F3 ?_) fun hu => hkj _ _ ⟨by rw [hfit, hu]; rfl, F1.tr F3⟩)) (fun b w' h => done_b h)
  have last : ∀ {w4 : World}, Fr noB w1 w4 → (((bl o).isEmpty && !plainT (bl n)) || isName (bl o)) = true → ldG .slice ⟨m5, 3, none⟩ (fun (l : Sl) => iteG (((l.n : Nat) : Int) == 0) (ldG .slice ⟨m5, 4, none⟩ fun (l2 : Sl) => kj (((l2.n : Nat) : Int) == 0)) (kj false)) (fun e w' => e = .returned (.bool T) ∧ Fr noB w w') w4 := by
   intro w4 F4 hmid
   refine d3 F4 ?_
   rw [e3]
   refine ite_ok (fun hb3 => d4 F4 (hkj _ _ ⟨?_, F1.tr F4⟩)) fun hb3 => hkj _ _ ⟨by rw [hfit, hb3]; simp, F1.tr F4⟩
   rw [e4, hfit, hu, hmid, hb3]
   rfl
  have name : ∀ {w4 : World}, Fr noB w1 w4 → ((bl o).isEmpty && !plainT (bl n)) = false → callG Tryz.prog 93 #[.string o] [.one .bool] (fun (b : Bool) => iteG b (ldG .slice ⟨m5, 3, none⟩ (fun (l : Sl) => iteG (((l.n : Nat) : Int) == 0) (ldG .slice ⟨m5, 4, none⟩ fun (l2 : Sl) => kj (((l2.n : Nat) : Int) == 0)) (kj false))) (kj false)) (fun e w' => e = .returned (.bool T) ∧ Fr noB w w') w4 := by
   intro w4 F4 hno
   refine callB_ok (Name_ok o hos) fun w5 F5 => ite_ok (fun hb => last (F4.tr F5) (by rw [hb, Bool.or_true])) fun hb => hkj _ _ ⟨?_, F1.tr (F4.tr F5)⟩
   rw [hfit, hu, hno, hb]
   rfl
  rw [emp_bl]
  refine ite_ok (fun ho => d2 F3 (callB_ok (splain_ok n) fun w4 F4 => ite_ok (fun hp => last (F3.tr F4) ?_) fun hp => d1 (F3.tr F4) (name (F3.tr F4) ?_))) fun ho => d1 F3 (name F3 ?_)
  ·rw [ho, hp]
   rfl
  ·rw [hp, Bool.and_false]
  ·rw [ho]
   rfl
 have h9 : ¬ k = 9 := by simpa using h9
 rw [if_neg (c := k = 9) h9] at hfit
 refine ite_ok (fun h10 => ?_) fun h10 => ?_
 ·have h10 : k = 10 := by simpa using h10
  rw [if_pos h10] at hfit
  refine join1_ok (c := .bool) (fun (b : Bool) w' => b = T ∧ Fr noB w w') (fun kj hkj => d2 R0 (callB_ok (Upper_ok n hnz) fun w3 F3 => ite_ok (fun hu => d1 F3 (callB_ok (Name_ok o hos) fun w4 F4 => ite_ok (fun hm => d3 (F3.tr F4) ?_) fun hm => hkj _ _ ⟨by rw [hfit, hu, hm]; rfl, F1.tr (F3.tr F4)⟩)) fun hu => hkj _ _ ⟨by rw [hfit, hu]; rfl, F1.tr F3⟩)) (fun b w' h => done_b h)
  rw [e3]
  refine ite_ok (fun hb3 => d4 (F3.tr F4) (hkj _ _ ⟨?_, F1.tr (F3.tr F4)⟩)) fun hb3 => hkj _ _ ⟨by rw [hfit, hb3]; simp, F1.tr (F3.tr F4)⟩
  rw [e4, hfit, hu, hm, hb3]
  rfl
 have h10 : ¬ k = 10 := by simpa using h10
 rw [if_neg (c := k = 10) h10] at hfit
 exact ⟨by rw [hfit], F1⟩
end Go.Proofs.YticokfpaoiekgaaGreatDoor
end
