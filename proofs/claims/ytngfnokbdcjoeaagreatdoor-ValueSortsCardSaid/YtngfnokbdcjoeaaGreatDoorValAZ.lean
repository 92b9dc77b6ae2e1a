/- The law behind: one part of its proof (joined by program out of my own texts). No condition. -/
import Derived.Test.YtngfnokbdcjoeaaGreatDoorValAY
section
namespace Go.Shp
open Go.Lex
def ixL (l : List B) : List (B × Int) := l.zipIdx.map fun p => (p.1, (p.2 : Int))
theorem ixL_snoc (l : List B) (x : B) : ixL (l ++ [x]) = ixL l ++ [(x, (l.length : Int))] := by
 unfold ixL
 rw [List.zipIdx_append, List.map_append]
 simp
theorem ixL_mem {l : List B} {x : B} {i : Int} : (x, i) ∈ ixL l ↔ ∃ j : Nat, i = (j : Int) ∧ l[j]? = some x := by
 unfold ixL
 rw [List.mem_map]
 constructor
 ·rintro ⟨⟨y, j⟩, hm, he⟩
  simp only [Prod.mk.injEq] at he
  obtain ⟨rfl, rfl⟩ := he
  have := List.mem_zipIdx_iff_getElem?.1 hm
  exact ⟨j, rfl, this⟩
 ·rintro ⟨j, rfl, hj⟩
  exact ⟨(x, j), List.mem_zipIdx_iff_getElem?.2 hj, rfl⟩
end Go.Shp
namespace Go.Proofs.YtngfnokbdcjoeaaGreatDoor
open Go.Lift Go.Lex Go.Shp
theorem uMapTI : Tryz.prog.underlying 107 = some (.map 9 3) := by kernel_rfl
theorem uStr : Tryz.prog.underlying 9 = some .string := by kernel_rfl
theorem zInt : ∀ w, (zeroValue 3).run Tryz.prog w = .ok (.int .i64 0) w := fun w => by
 have hi : (Tryz.prog.info? 3).map (·.zero) = some (some (.int .i64 0)) := by kernel_rfl
 cases h : Tryz.prog.info? 3 with
 | none => rw [h] at hi; cases hi
 | some i =>
  rw [h] at hi
  have hz : i.zero = some (.int .i64 0) := by simpa using hi
  simp [zeroValue, typeInfo, h, hz]
theorem sfields_ok {w : World} {k : Int} {o n : ByteArray} {ns ps : Sl} {s : Shape} (hv : ShV w k o n ns ps s) (hd : s.names.Nodup) : Calls Tryz.prog 95 #[shArg k o n ns ps] w fun e w' => ∃ r, e = .returned (.map (some r)) ∧ MapT w' r (ixL s.names) ∧ Fr noB w w' := by
 obtain ⟨_, _, _, ⟨hns, hnl, _⟩, _⟩ := hv.parts
 have hnn := hns.1
 rw [List.length_map] at hnn
 apply c95
 unfold t95 wrZ ldSZ ldLZ nw5Z jn0Z lpIZ ixZ
 refine new_ok fun w1 m5 hm5 hs1 B1 F1 => ?_
 change Blk w1 m5 _ (shCells k o n ns ps) at B1
 refine B1.ldS (o := 3) rfl (mapT_make uMapTI fun w2 r hr M2 F2 => (B1.fr F2 fun h => h).ldS (o := 3) rfl ?_)
 refine join0_ok (fun w' => MapT w' r (ixL s.names) ∧ Fr noB w w') (fun kend hkend => ?_) fun w' ⟨h, F⟩ => ⟨r, rfl, h, F⟩
 refine countL_ok s.names.length (by omega) (fun i w' => MapT w' r (ixL (s.names.take i)) ∧ Fr noB w w') (fun rec i w3 hi hI hrec => ?_) ⟨M2, F1.tr F2⟩
 obtain ⟨M3, F3⟩ := hI
 refine ite_ok (fun hlt => ?_) fun hge => hkend _ ⟨?_, F3⟩
 ·have hlt : (i : Int) < (ns.n : Int) := of_decide_eq_true hlt
  obtain ⟨x, hx⟩ : ∃ x, s.names[i]? = some x := ⟨_, List.getElem?_eq_getElem (by omega)⟩
  refine join_in (vs := []) (str_ld (hns.fr F3) hx (mapT_put uMapTI uStr M3 (fun y hy he => ?_) fun w4 M4 F4 z4 => hrec (by omega) _ ⟨?_, F3.then F4 fun z hz h => ?_⟩))
  ·obtain ⟨j, _, hj⟩ := ixL_mem.1 (show (x, y.2) ∈ _ by rw [← he]; exact hy)
   have hjl := (List.getElem?_eq_some_iff.1 hj).1
   rw [List.length_take] at hjl
   rw [List.getElem?_take_of_lt (by omega)] at hj
   have := (List.getElem_inj (xs := s.names) (i := j) (j := i) (h₀ := by omega) (h₁ := by omega) hd).1 (by rw [(List.getElem?_eq_some_iff.1 hj).2, (List.getElem?_eq_some_iff.1 hx).2])
   omega
  ·have : s.names.take (i + 1) = s.names.take i ++ [x] := by rw [List.take_add_one, hx]; rfl
   rw [this, ixL_snoc, List.length_take, Nat.min_eq_left (by omega)]
   exact M4
  ·have := F1.size
   unfold oneB at h
   show False
   omega
 ·have hge : ¬ (i : Int) < (ns.n : Int) := of_decide_eq_false hge
  rw [List.take_of_length_le (by omega)] at M3
  exact M3
theorem swithin_ok {w : World} {f : FuncId} {F : Shape → Shape → Bool} {k : Int} {o n : ByteArray} {ns ps : Sl} {s : Shape} {k2 : Int} {o2 n2 : ByteArray} {ns2 ps2 : Sl} {s' : Shape} (hv : ShV w k o n ns ps s) (hv2 : ShV w k2 o2 n2 ns2 ps2 s')
  (hla : s.names.length = s.parts.length) (hlb : s'.names.length = s'.parts.length) (hdb : s'.names.Nodup) (hr : (resOf Tryz.prog f).isSome = true)
  (hf : ∀ p ∈ s.parts, ∀ q ∈ s'.parts, ∀ {w : World} {k : Int} {o n : ByteArray} {ns ps : Sl} {k2 : Int} {o2 n2 : ByteArray} {ns2 ps2 : Sl}, ShV w k o n ns ps p → ShV w k2 o2 n2 ns2 ps2 q → AnsB f #[shArg k o n ns ps, shArg k2 o2 n2 ns2 ps2] w (F p q)) :
  AnsB 67 #[shArg k o n ns ps, shArg k2 o2 n2 ns2 ps2, .func (.func f) #[] #[]] w (withinF F s.names s.parts s'.names s'.parts) := by
 obtain ⟨_, _, _, ⟨hns, hnl, hpn, hpl, _⟩, hps⟩ := hv.parts
 obtain ⟨_, _, _, ⟨hns2, hnl2, hpn2, hpl2, _⟩, hps2⟩ := hv2.parts
 have hnn := hns.1
 rw [List.length_map] at hnn
 apply c67
 unfold t67 wrZ svZ shZ ldSZ ldLZ ld5mZ ld5xZ nw5Z caZ jn0Z jnBZ lpIZ ixZ
 refine new_ok fun w1 m10 hm10 hs1 B1 F1 => new_ok fun w2 m11 hm11 hs2 C2 F2 => ?_
 have B2 := B1.fr F2 (fun h => h)
 change Blk w2 m10 _ (shCells k o n ns ps) at B2
 change Blk w2 m11 _ (shCells k2 o2 n2 ns2 ps2) at C2
 have F12 := F1.tr F2
 clear B1
 refine C2.ldV (call_ok (sfields_ok (hv2.fr F12) hdb) ?_)
 rintro e w3 ⟨r, rfl, M3, F3⟩
 refine ⟨((some r, ()), ()), rfl, ?_⟩
 refine (B2.fr F3 fun h => h).ldS (o := 3) rfl ?_
 generalize hT : withinF F s.names s.parts s'.names s'.parts = T
 have hrb : r < w3.heap.size := M3.lt
 refine join0_ok (fun w' => T = true ∧ Fr noB w3 w') (fun kend hkend => ?_) fun w' ⟨h, G⟩ => ⟨by rw [h], (F12.tr F3).tr G⟩
 refine countL_ok s.names.length (by omega) (fun i w' => (∀ (j : Nat) (x : B) (p : Shape), j < i → s.names[j]? = some x → s.parts[j]? = some p → ∃ q, find s'.names s'.parts x = some q ∧ F p q = true) ∧ Fr noB w3 w') (fun rec i w4 hi hI hrec => ?_) ⟨fun j x p h => by omega, Fr.refl _ _⟩
 obtain ⟨hdone, G4⟩ := hI
 have K4 := F3.tr G4
 refine ite_ok (fun hlt => ?_) fun hge => hkend _ ⟨?_, G4⟩
 rotate_left
 ·have hge : ¬ (i : Int) < (ns.n : Int) := of_decide_eq_false hge
  rw [← hT, withinF_iff]
  intro j x p hx hp
  have := (List.getElem?_eq_some_iff.1 hx).1
  exact hdone j x p (by omega) hx hp
 have hlt : (i : Int) < (ns.n : Int) := of_decide_eq_true hlt
 obtain ⟨x, hx⟩ : ∃ x, s.names[i]? = some x := ⟨_, List.getElem?_eq_getElem (by omega)⟩
 obtain ⟨p, hp⟩ : ∃ p, s.parts[i]? = some p := ⟨_, List.getElem?_eq_getElem (by omega)⟩
 have hpm := List.mem_of_getElem? hp
 have bad : (∀ q, find s'.names s'.parts x = some q → F p q = false) → T = false := fun h => by
  rw [← hT, Bool.eq_false_iff]
  intro hW
  obtain ⟨q, hq, hF⟩ := withinF_iff.1 hW i x p hx hp
  rw [h q hq] at hF
  cases hF
 refine join_in (vs := []) (str_ld (hns.fr (F12.tr K4)) hx (mapT_get uMapTI uStr zInt (M3.fr G4 fun h => h) (fun hno => ?_) fun ix hix => ?_))
 ·refine join1_ok (c := .bool) (fun (b : Bool) w5 => b = true ∧ Fr noB w3 w5) (fun kj hkj => drew_ok fun w5 F5 z5 => ite_yes rfl (hkj _ _ ⟨rfl, G4.tr F5⟩)) ?_
  rintro b w5 ⟨rfl, G5⟩
  refine ite_yes rfl ⟨?_, (F12.tr F3).tr G5⟩
  rw [bad fun q hq => ?_]
  obtain ⟨j, hj1, hj2⟩ := (find_iff hdb).1 hq
  exact absurd rfl (hno (x, (j : Int)) (ixL_mem.2 ⟨j, rfl, hj1⟩))
 ·obtain ⟨j, rfl, hj⟩ := ixL_mem.1 hix
  have hjl := (List.getElem?_eq_some_iff.1 hj).1
  obtain ⟨q, hq⟩ : ∃ q, s'.parts[j]? = some q := ⟨_, List.getElem?_eq_getElem (by omega)⟩
  have hqm := List.mem_of_getElem? hq
  have hfq := (find_iff hdb).2 ⟨j, hj, hq⟩
  refine join1_ok (c := .bool) (fun (b : Bool) w5 => b = (!F p q) ∧ Fr noB w3 w5) (fun kj hkj => drew_ok fun w5 F5 z5 => ite_no rfl ?_) ?_
  ·have G5 := G4.tr F5
   have K5 := F3.tr G5
   refine (B2.fr K5 fun h => h).ldS (o := 4) rfl (part_ld (hps.fr (F12.tr K5)) hp hpn fun k3 o3 n3 ns3 ps3 hv3 => (C2.fr K5 fun h => h).ldS (o := 4) rfl (part_ld (hps2.fr (F12.tr K5)) hq hpn2 fun k4 o4 n4 ns4 ps4 hv4 => ?_))
   refine callBV_ok hr (hf p hpm q hqm hv3 hv4) fun w6 F6 => ?_
   have K6 := K5.tr F6
   exact keep_cons ((C2.fr K6 fun h => h).held1 rfl) (keep_cons ((B2.fr K6 fun h => h).held1 rfl) (keep_nil (hkj _ _ ⟨rfl, G5.tr F6⟩)))
  rintro b w5 ⟨rfl, G5⟩
  refine ite_ok (fun hb => ⟨?_, (F12.tr F3).tr G5⟩) fun hb => hrec (by omega) _ ⟨fun j' x' p' hj' hx' hp' => ?_, G5⟩
  ·rw [bad fun q' hq' => ?_]
   rw [hfq] at hq'
   cases hq'
   simpa using hb
  ·rcases Nat.lt_succ_iff_lt_or_eq.1 hj' with hj' | rfl
   ·exact hdone j' x' p' hj' hx' hp'
   ·rw [hx] at hx'
    rw [hp] at hp'
    cases hx'
    cases hp'
    exact ⟨q, hfq, by simpa using hb⟩
theorem resBelow : (resOf Tryz.prog 40).isSome = true := by kernel_rfl
theorem resBelow1 : (resOf Tryz.prog 68).isSome = true := by kernel_rfl
set_option maxHeartbeats 2000000 in
theorem sbelow_ok : BelowC
 | 0, s, _, h, _, _, _, _, _, _, _, _, _, _, _, _, _, _, _, _ => by have := deep_pos s; omega
 | d + 1, .mk kA oA nA nsA psA, .mk kB oB nB nsB psB, hda, hdb, hfa0, hfb0, w, k, o, n, ns, ps, k2, o2, n2, ns2, ps2, hv, hv2 => by
  have ih := sbelow_ok d
  rw [deep_mk] at hda hdb
  obtain ⟨fa, hfa⟩ := allFit_parts hfa0
  obtain ⟨fb, hfb⟩ := allFit_parts hfb0
  obtain ⟨ek, eo, en, ⟨hns, hnl, hpn, hpl, _⟩, hps⟩ := hv.parts
  obtain ⟨ek2, eo2, en2, ⟨hns2, hnl2, hpn2, hpl2, _⟩, hps2⟩ := hv2.parts
  change k = kA at ek
  change bl o = oA at eo
  change bl n = nA at en
  change k2 = kB at ek2
  change bl o2 = oB at eo2
  change bl n2 = nB at en2
  change ps.n = psA.length at hpn
  change ps2.n = psB.length at hpn2
  change psA.length < 4611686018427387904 at hpl
  change psB.length < 4611686018427387904 at hpl2
  change ShL w ps.a 0 psA at hps
  change ShL w ps2.a 0 psB at hps2
  apply c40
  unfold t40 wrZ svZ shZ ldIZ ldSZ ldLZ ld5mZ ld5xZ nw5Z caBZ jn0Z jnBZ lpIZ ixZ
  refine new_ok fun w1 m10 hm10 hs1 B1 F1 => new_ok fun w2 m11 hm11 hs2 C2 F2 => ?_
  have B2 := B1.fr F2 (fun h => h)
  change Blk w2 m10 _ (shCells k o n ns ps) at B2
  change Blk w2 m11 _ (shCells k2 o2 n2 ns2 ps2) at C2
  have F12 := F1.tr F2
  clear B1
  generalize hT : belowF (d + 1) (.mk kA oA nA nsA psA) (.mk kB oB nB nsB psB) = T
  rw [belowF] at hT
  replace hT := hT.symm
  refine B2.ld (c := .int .i64) (x := k) (o := 0) rfl (C2.ld (c := .int .i64) (x := k2) (o := 0) rfl (ite_ok (fun h1 => ?_) fun h1 => ?_))
  ·have h1 : kA ≠ kB := by rw [← ek, ← ek2]; simpa using h1
   refine ⟨?_, F12⟩
   rw [hT, if_pos h1]
  have h1 : kA = kB := by rw [← ek, ← ek2]; simpa using h1
  rw [if_neg (by simpa using h1)] at hT
  refine B2.ld (c := .int .i64) (x := k) (o := 0) rfl (join_in (vs := []) ?_)
  refine join1_ok (c := .bool) (fun (b : Bool) w' => w' = w2 ∧ b = decide (kA = 9 ∨ kA = 10)) (fun kj hkj => ite_ok (fun h => hkj _ _ ⟨rfl, ?_⟩) fun h => hkj _ _ ⟨rfl, ?_⟩) ?_
  ·have h : k = 9 := by simpa using h
   rw [Bool.eq_iff_iff, beq_iff_eq, decide_eq_true_eq]
   omega
  ·have h : ¬ k = 9 := by simpa using h
   rw [Bool.eq_iff_iff, beq_iff_eq, decide_eq_true_eq]
   omega
  rintro b w' ⟨hw', rfl⟩
  replace hw' := hw'.symm
  subst hw'
  refine ite_ok (fun h => ?_) fun h9 => ?_
  ·have h : kA = 9 ∨ kA = 10 := of_decide_eq_true h
   rw [if_pos h] at hT
   refine join1_ok (c := .bool) (fun (b : Bool) w' => b = T ∧ Fr noB w w') (fun kj hkj => B2.ld (c := .str) (x := o) (o := 1) rfl (C2.ld (c := .str) (x := o2) (o := 1) rfl ?_)) (fun b w' h => done_b h)
   rw [eq_bl, eo, eo2]
   refine ite_ok (fun h => B2.ld (c := .str) (x := n) (o := 2) rfl (C2.ld (c := .str) (x := n2) (o := 2) rfl (hkj _ _ ⟨?_, F12⟩))) fun h => hkj _ _ ⟨by rw [hT, h]; rfl, F12⟩
   rw [eq_bl, en, en2, hT, h]
   rfl
  have h9 : ¬ (kA = 9 ∨ kA = 10) := of_decide_eq_false h9
  rw [if_neg h9] at hT
  refine ite_ok (fun h => ?_) fun h5 => ?_
  ·have h : kA = 5 := by rw [← ek]; simpa using h
   rw [if_neg (by omega), if_neg (by omega)] at hT
   have hl1 : psA.length = 1 := by subst h; exact fits_five fa
   have hl2 : psB.length = 1 := by
    have : kB = 5 := by omega
    subst this
    exact fits_five fb
   obtain ⟨p, rfl⟩ := List.length_eq_one_iff.1 hl1
   obtain ⟨q, rfl⟩ := List.length_eq_one_iff.1 hl2
   have hdp := deep_mem (l := [p]) (s := p) (by simp)
   have hdq := deep_mem (l := [q]) (s := q) (by simp)
   refine drew_ok fun w3 F3 z3 => (B2.fr F3 fun h => h).ldS (o := 4) rfl (part_ld (i := 0) (hps.fr (F12.tr F3)) rfl hpn fun k3 o3 n3 ns3 ps3 hv3 => (C2.fr F3 fun h => h).ldS (o := 4) rfl (part_ld (i := 0) (hps2.fr (F12.tr F3)) rfl hpn2 fun k4 o4 n4 ns4 ps4 hv4 => ?_))
   refine callB_ok (ih p q (by omega) (by omega) (hfa p (by simp)) (hfb q (by simp)) hv3 hv4) fun w4 F4 => ?_
   have G4 := F3.tr F4
   refine keep_cons ((C2.fr G4 fun h => h).held1 rfl) (keep_cons ((B2.fr G4 fun h => h).held1 rfl) (keep_nil ⟨?_, F12.tr G4⟩))
   rw [hT]
   rfl
  have h5 : ¬ kA = 5 := by rw [← ek]; simpa using h5
  refine ite_ok (fun h => ?_) fun h6 => ?_
  ·have h : kA = 6 := by rw [← ek]; simpa using h
   rw [if_pos h] at hT
   obtain ⟨hla, hda2⟩ := fits_named fa (.inl h)
   obtain ⟨hlb, hdb2⟩ := fits_named fb (.inl (by omega))
   refine C2.ldV (B2.ldV (callB_ok (swithin_ok (F := fun x y => belowF d y x) (hv2.fr F12) (hv.fr F12) hlb hla hda2 resBelow1 fun p hp q hq => ?_) fun w3 F3 => ⟨?_, F12.tr F3⟩))
   ·intro wx k3 o3 n3 ns3 ps3 k4 o4 n4 ns4 ps4 hv3 hv4
    have hdp := deep_mem hp
    have hdq := deep_mem hq
    change deep p ≤ deeps psB at hdp
    change deep q ≤ deeps psA at hdq
    apply c68
    unfold t68 shZ ld5mZ nw5Z caBZ
    refine new_ok fun w4 m4 hm4 hs4 B4 F4 => new_ok fun w5 m5 hm5 hs5 C5 F5 => ?_
    have B5 := B4.fr F5 (fun h => h)
    change Blk w5 m4 _ (shCells k3 o3 n3 ns3 ps3) at B5
    change Blk w5 m5 _ (shCells k4 o4 n4 ns4 ps4) at C5
    exact C5.ldV (B5.ldV (callB_ok (ih q p (by omega) (by omega) (hfa q hq) (hfb p hp) (hv4.fr (F4.tr F5)) (hv3.fr (F4.tr F5))) fun w6 F6 => ⟨rfl, (F4.tr F5).tr F6⟩))
   ·rw [hT]
    rfl
  have h6 : ¬ kA = 6 := by rw [← ek]; simpa using h6
  rw [if_neg h6] at hT
  refine ite_ok (fun h => ?_) fun h7 => ?_
  ·have h : kA = 7 := by rw [← ek]; simpa using h
   rw [if_pos h] at hT
   obtain ⟨hla, hda2⟩ := fits_named fa (.inr h)
   obtain ⟨hlb, hdb2⟩ := fits_named fb (.inr (by omega))
   refine B2.ldV (C2.ldV (callB_ok (swithin_ok (F := belowF d) (hv.fr F12) (hv2.fr F12) hla hlb hdb2 resBelow fun p hp q hq => ?_) fun w3 F3 => ⟨?_, F12.tr F3⟩))
   ·intro wx k3 o3 n3 ns3 ps3 k4 o4 n4 ns4 ps4 hv3 hv4
    have hdp := deep_mem hp
    have hdq := deep_mem hq
    change deep p ≤ deeps psA at hdp
    change deep q ≤ deeps psB at hdq
    exact ih p q (by omega) (by omega) (hfa p hp) (hfb q hq) hv3 hv4
   ·rw [hT]
    rfl
  have h7 : ¬ kA = 7 := by rw [← ek]; simpa using h7
  rw [if_neg h7] at hT
  refine join_in (vs := []) (ite_ok (fun h8 => ?_) fun h8 => ?_)
  rotate_left
  ·have h8 : ¬ kA = 8 := by rw [← ek]; simpa using h8
   refine ⟨?_, F12⟩
   rw [hT, (fits_leaf fa ⟨h5, h6, h7, h8⟩).1, (fits_leaf fb (by omega)).1]
   rfl
  have h8 : kA = 8 := by rw [← ek]; simpa using h8
  have hpos : 0 < psA.length := by subst h8; exact fits_eight fa
  have ew : IntKind.wrap .i64 (((ps.n : Nat) : Int) - 1) = ((ps.n - 1 : Nat) : Int) := by rw [wrap_ok (by omega) (by omega)]; omega
  have ew2 : IntKind.wrap .i64 ((((ps.n - 1 : Nat) : Nat) : Int) + 1) = ((ps.n : Nat) : Int) := by rw [wrap_ok (by omega) (by omega)]; omega
  refine B2.ldS (o := 4) rfl ?_
  rw [ew, ew2]
  obtain ⟨pl, hplast⟩ : ∃ p, psA[ps.n - 1]? = some p := ⟨_, List.getElem?_eq_getElem (by omega)⟩
  refine join1_ok (c := .bool) (fun (b : Bool) w' => b = !(decide (psA.length = psB.length) && (psB[ps.n - 1]?).any fun q => belowF d pl q) ∧ Fr noB w2 w') (fun kj hkj => drew_ok fun w3 F3 z3 => (C2.fr F3 fun h => h).ldS (o := 4) rfl (ite_ok (fun hl => hkj _ _ ⟨?_, F3⟩) fun hl => ?_)) ?_
  ·have hl : ((ps2.n : Nat) : Int) ≠ (ps.n : Nat) := by simpa using hl
   rw [decide_eq_false (by omega)]
   rfl
  ·have hl : ((ps2.n : Nat) : Int) = (ps.n : Nat) := by simpa using hl
   obtain ⟨ql, hqlast⟩ : ∃ q, psB[ps.n - 1]? = some q := ⟨_, List.getElem?_eq_getElem (by omega)⟩
   have hdp := deep_mem (List.mem_of_getElem? hplast)
   have hdq := deep_mem (List.mem_of_getElem? hqlast)
   refine (B2.fr F3 fun h => h).ldS (o := 4) rfl (part_ld (hps.fr (F12.tr F3)) hplast hpn fun k3 o3 n3 ns3 ps3 hv3 => (C2.fr F3 fun h => h).ldS (o := 4) rfl (part_ld (hps2.fr (F12.tr F3)) hqlast hpn2 fun k4 o4 n4 ns4 ps4 hv4 => ?_))
   refine callB_ok (ih pl ql (by omega) (by omega) (hfa pl (List.mem_of_getElem? hplast)) (hfb ql (List.mem_of_getElem? hqlast)) hv3 hv4) fun w4 F4 => ?_
   have G4 := F3.tr F4
   refine keep_cons ((C2.fr G4 fun h => h).held1 rfl) (keep_cons ((B2.fr G4 fun h => h).held1 rfl) (keep_cons ((C2.fr G4 fun h => h).held1 rfl) (keep_nil (hkj _ _ ⟨?_, G4⟩))))
   rw [decide_eq_true (by omega), hqlast]
   rfl
  rintro b w3 ⟨rfl, G3⟩
  refine ite_ok (fun hb => ⟨?_, F12.tr G3⟩) fun hb => ?_
  ·have hb : (decide (psA.length = psB.length) && (psB[ps.n - 1]?).any fun q => belowF d pl q) = false := by rw [Bool.not_eq_true'] at hb; exact hb
   have : T = false := by
    rw [hT, Bool.eq_false_iff]
    intro h
    obtain ⟨hl, hall⟩ := funAll_iff.1 h
    rw [decide_eq_true hl, Bool.true_and] at hb
    obtain ⟨ql, hqlast⟩ : ∃ q, psB[ps.n - 1]? = some q := ⟨_, List.getElem?_eq_getElem (by omega)⟩
    have := hall _ pl ql hplast hqlast
    rw [if_pos (by omega)] at this
    rw [hqlast] at hb
    change belowF d pl ql = false at hb
    rw [this] at hb
    cases hb
   rw [this]
  have hb : (decide (psA.length = psB.length) && (psB[ps.n - 1]?).any fun q => belowF d pl q) = true := by simpa using hb
  rw [Bool.and_eq_true] at hb
  obtain ⟨hl, hlast⟩ := hb
  have hl : psA.length = psB.length := of_decide_eq_true hl
  refine join0_ok (fun w4 => T = true ∧ Fr noB w2 w4) (fun kend hkend => ?_) fun w4 ⟨h, G4⟩ => ⟨by rw [h], F12.tr G4⟩
  refine countL_ok (ps.n - 1) (by omega) (fun i w4 => (∀ (j : Nat) (p q : Shape), j < i → psA[j]? = some p → psB[j]? = some q → belowF d q p = true) ∧ Fr noB w2 w4) (fun rec i w4 hi hI hrec => ?_) ⟨fun j x p h => by omega, G3⟩
  obtain ⟨hdone, G4⟩ := hI
  refine ite_ok (fun hlt => ?_) fun hge => hkend _ ⟨?_, G4⟩
  ·have hlt : (i : Int) < ((ps.n - 1 : Nat) : Int) := of_decide_eq_true hlt
   obtain ⟨p, hp⟩ : ∃ p, psA[i]? = some p := ⟨_, List.getElem?_eq_getElem (by omega)⟩
   obtain ⟨q, hq⟩ : ∃ q, psB[i]? = some q := ⟨_, List.getElem?_eq_getElem (by omega)⟩
   have hpm := List.mem_of_getElem? hp
   have hqm := List.mem_of_getElem? hq
   have hdp := deep_mem hpm
   have hdq := deep_mem hqm
   refine join_in (vs := []) (drew_ok fun w5 F5 z5 => ?_)
   have G5 := G4.tr F5
   refine (C2.fr G5 fun h => h).ldS (o := 4) rfl (part_ld (hps2.fr (F12.tr G5)) hq hpn2 fun k4 o4 n4 ns4 ps4 hv4 => (B2.fr G5 fun h => h).ldS (o := 4) rfl (part_ld (hps.fr (F12.tr G5)) hp hpn fun k3 o3 n3 ns3 ps3 hv3 => ?_))
   refine callB_ok (ih q p (by omega) (by omega) (hfb q hqm) (hfa p hpm) hv4 hv3) fun w6 F6 => ?_
   have G6 := G5.tr F6
   refine keep_cons ((B2.fr G6 fun h => h).held1 rfl) (keep_cons ((C2.fr G6 fun h => h).held1 rfl) (keep_nil (ite_ok (fun h => ⟨?_, F12.tr G6⟩) fun h => hrec (by omega) _ ⟨fun j p' q' hj hp' hq' => ?_, G6⟩)))
   ·have h : belowF d q p = false := by simpa using h
    have : T = false := by
     rw [hT, Bool.eq_false_iff]
     intro h'
     have := (funAll_iff.1 h').2 i p q hp hq
     rw [if_neg (by omega)] at this
     rw [this] at h
     cases h
    rw [this]
   ·rcases Nat.lt_succ_iff_lt_or_eq.1 hj with hj | rfl
    ·exact hdone j p' q' hj hp' hq'
    ·rw [hp] at hp'
     rw [hq] at hq'
     cases hp'
     cases hq'
     simpa using h
  ·have hge : ¬ (i : Int) < ((ps.n - 1 : Nat) : Int) := of_decide_eq_false hge
   rw [hT, funAll_iff]
   refine ⟨hl, fun j p q hp hq => ?_⟩
   have hjl := (List.getElem?_eq_some_iff.1 hp).1
   by_cases hj : j + 1 = psA.length
   ·rw [if_pos hj]
    have ej : ps.n - 1 = j := by omega
    rw [ej] at hplast hlast
    rw [hp] at hplast
    cases hplast
    rw [hq] at hlast
    exact hlast
   ·rw [if_neg hj]
    exact hdone j p q (by omega) hp hq
end Go.Proofs.YtngfnokbdcjoeaaGreatDoor
end
section
namespace Go.Proofs.YtngfnokbdcjoeaaGreatDoor
open Go.Lift Go.Lex Go.Shp
def SortT (w : World) (s : Shape) (e : Ending) (w' : World) : Prop := ∃ (k : Int) (o n : ByteArray) (ns ps : Sl), e = .returned (shArg k o n ns ps) ∧ Fr noB w w' ∧ ShV w' k o n ns ps s
theorem callT_ok {w : World} {R : Ending → World → Prop} {f : FuncId} {args : Array Value} {s : Shape} (hc : Calls Tryz.prog f args w (SortT w s)) {K : Int → ByteArray → ByteArray → Sl → Sl → G}
  (h : ∀ k o n ns ps w', Fr noB w w' → ShV w' k o n ns ps s → K k o n ns ps R w') : callG Tryz.prog f args [.agg [.int .i64, .str, .str, .slice, .slice]] K R w :=
 call_ok hc fun _ w' ⟨k, o, n, ns, ps, he, F, hv⟩ => ⟨((k, o, n, ns, ps, ()), ()), he, h k o n ns ps w' F hv⟩
section
variable {w : World} {v s s' : Shape} {k z : Int} {o n : ByteArray} {ns ps : Sl} {k2 : Int} {o2 n2 : ByteArray} {ns2 ps2 : Sl} {k3 : Int} {o3 n3 : ByteArray} {ns3 ps3 : Sl}
theorem shSort_ok (hv : ShV w k o n ns ps s) : Calls Tryz.prog 23 #[shArg k o n ns ps] w (SortT w (if check s = 0 then sortS s else s)) := by
 apply c23
 unfold t23 shZ ld5mZ st5Z nw5Z nz5Z caIZ ca5Z
 refine new_ok fun w1 m5 hm5 hs1 B1 F1 => new_ok fun w2 m6 hm6 hs2 C2 F2 => ?_
 have B2 := B1.fr F2 (fun h => h)
 change Blk w2 m5 _ (shCells k o n ns ps) at B2
 have F12 := F1.tr F2
 have hw6 : w.heap.size ≤ m6 := by omega
 refine B2.ldV (callI_ok (scheck_ok scountC snamedC (hv.fr F12)) fun w3 F3 => ?_)
 have B3 := B2.fr F3 (fun h => h)
 have C3 := C2.fr F3 (fun h => h)
 have F13 := F12.tr F3
 refine ite_ok (fun h => ?_) fun h => ?_
 ·have h : check s ≠ 0 := by
   intro e
   rw [e] at h
   cases h
  rw [if_neg h]
  refine B3.ldV (fill_ok C3 rfl rfl rfl rfl rfl rfl fun w4 C4 F4 => ?_)
  change Blk w4 m6 _ (shCells k o n ns ps) at C4
  have G4 : Fr noB w w4 := F13.fill hw6 F4
  exact C4.ldV ⟨k, o, n, ns, ps, rfl, G4, hv.fr G4⟩
 ·have h : check s = 0 := by
   have h : ((check s : Nat) : Int) = 0 := by simpa using h
   omega
  rw [if_pos h]
  obtain ⟨za, _, fa⟩ := check_ok.1 h
  refine B3.ldV (callSort_ok (ssortedC s (by omega) fa (hv.fr F13)) fun k3 o3 n3 ns3 ps3 w4 F4 hs => fill_ok (C3.fr F4 (fun h => h)) rfl rfl rfl rfl rfl rfl fun w5 C5 F5 => ?_)
  change Blk w5 m6 _ (shCells k3 o3 n3 ns3 ps3) at C5
  have hm6l := C3.lt
  exact C5.ldV ⟨k3, o3, n3, ns3, ps3, rfl, (F13.tr F4).fill hw6 F5, hs w5 (F5.mono fun x hx h => by unfold oneB at h; show x < w3.heap.size; omega)⟩
theorem kind_shv (w : World) (q : Int) : ShV w q ⟨#[]⟩ ⟨#[]⟩ ⟨none, 0, 0⟩ ⟨none, 0, 0⟩ (.mk q [] [] [] []) := by
 unfold ShV
 refine ⟨rfl, rfl, rfl, ⟨⟨rfl, fun k x h => (by cases h)⟩, by simp, rfl, by simp, by decide, by decide, fun x h => (by cases h)⟩, ?_⟩
 unfold ShL
 trivial
set_option maxHeartbeats 4000000 in
theorem ValueBelow_ok (hA : AwakeC) (hg : GlobV w) (hv : VaV w k z o n ns ps v) (ha : ShV w k2 o2 n2 ns2 ps2 s) (hb : ShV w k3 o3 n3 ns3 ps3 s') :
  AnsB 8 #[vaArg k z o n ns ps, shArg k2 o2 n2 ns2 ps2, shArg k3 o3 n3 ns3 ps3] w true := by
 apply c8
 unfold t8 shZ kfZ ld5mZ ld6mZ vaZ kf6Z nw6Z nw5Z caBZ ca5Z jnBZ
 refine new_ok fun w1 m16 hm12 hs1 B1 F1 => new_ok fun w2 m17 hm13 hs2 C2 F2 => new_ok fun w3 m18 hm14 hs3 D3 F3 => ?_
 have B3 := (B1.fr F2 (fun h => h)).fr F3 (fun h => h)
 have C3 := C2.fr F3 (fun h => h)
 change Blk w3 m16 _ (vaCells k z o n ns ps) at B3
 change Blk w3 m17 _ (shCells k2 o2 n2 ns2 ps2) at C3
 change Blk w3 m18 _ (shCells k3 o3 n3 ns3 ps3) at D3
 have F13 := (F1.tr F2).tr F3
 clear B1 C2
 have hv := hv.fr F13
 have ha := ha.fr F13
 have hb := hb.fr F13
 have hg := hg.frV F13
 have fB := held6 B3
 have fC := held5 C3
 have fD := held5 D3
 refine B3.ldW (C3.ldV (callB_ok (PFits_ok hv ha) fun w4 F4 => ite_ok (fun h1 => ?_) fun h1 => ?_))
 ·exact callB_ok (hA (hg.frV F4)) fun w5 F5 => ⟨rfl, (F13.tr F4).tr F5⟩
 have h1 : isFits v s = true := by simpa using h1
 have hc : check s = 0 := by
  have h := h1
  unfold isFits at h
  simp only [Bool.and_eq_true, beq_iff_eq] at h
  exact h.1.2
 refine join1_ok (c := .bool) (fun (b : Bool) w' => b = true ∧ Fr noB w w') (fun kj hkj => drew_ok fun w5 F5 z5 => ?_) fun b w' ⟨hb, F⟩ => ⟨by rw [hb], F⟩
 have H5 := F4.tr F5
 refine (B3.fr H5 (fun h => h)).ldW ((C3.fr H5 (fun h => h)).ldV (callT_ok (shSort_ok (ha.fr H5)) fun k4 o4 n4 ns4 ps4 w6 F6 hs4 => ?_))
 have H6 := H5.tr F6
 refine Stay.go (w := w3) (by repeat (first | exact Stay.nil | refine Stay.cons (by assumption) ?_)) H6 ?_
 rw [if_pos hc] at hs4
 refine callB_ok (PFits_ok (hv.fr H6) hs4) fun w7 F7 => ite_yes (isFits_sort h1) ?_
 have H7 := H6.tr F7
 refine (C3.fr H7 (fun h => h)).ldV ((D3.fr H7 (fun h => h)).ldV (callB_ok (sBelow_ok (scheck_ok scountC snamedC) sbelow_ok (ha.fr H7) (hb.fr H7)) fun w8 F8 => ?_))
 have H8 := H7.tr F8
 refine Stay.go (w := w3) (by repeat (first | exact Stay.nil | refine Stay.cons (by assumption) ?_)) H8 (ite_ok (fun h2 => ?_) fun h2 => ?_)
 ·refine (B3.fr H8 (fun h => h)).ldW (callB_ok (PFits_ok (hv.fr H8) (kind_shv _ 4)) fun w9 F9 => ?_)
  have H9 := H8.tr F9
  refine Stay.go (w := w3) (by repeat (first | exact Stay.nil | refine Stay.cons (by assumption) ?_)) H9 (ite_yes (isFits_any h1) (callB_ok (hA (hg.frV H9)) fun w10 F10 => ?_))
  have H10 := H9.tr F10
  exact Stay.go (w := w3) (by repeat (first | exact Stay.nil | refine Stay.cons (by assumption) ?_)) H10 (hkj _ _ ⟨rfl, F13.tr H10⟩)
 ·have h2 : isBelow s s' = true := by simpa using h2
  have h3 := isFits_below h1 h2
  refine (B3.fr H8 (fun h => h)).ldW ((D3.fr H8 (fun h => h)).ldV (callB_ok (PFits_ok (hv.fr H8) (hb.fr H8)) fun w9 F9 => ?_))
  have H9 := H8.tr F9
  refine Stay.go (w := w3) (by repeat (first | exact Stay.nil | refine Stay.cons (by assumption) ?_)) H9 (ite_yes h3 ?_)
  refine (B3.fr H9 (fun h => h)).ldW (callB_ok (PFits_ok (hv.fr H9) (kind_shv _ 4)) fun w10 F10 => ?_)
  have H10 := H9.tr F10
  refine Stay.go (w := w3) (by repeat (first | exact Stay.nil | refine Stay.cons (by assumption) ?_)) H10 (ite_yes (isFits_any h1) (callB_ok (hA (hg.frV H10)) fun w11 F11 => ?_))
  have H11 := H10.tr F11
  exact Stay.go (w := w3) (by repeat (first | exact Stay.nil | refine Stay.cons (by assumption) ?_)) H11 (hkj _ _ ⟨rfl, F13.tr H11⟩)
end
end Go.Proofs.YtngfnokbdcjoeaaGreatDoor
end
section
namespace Go.Tms
open Go.Lex Go.Shp
inductive Tm where
 | mk (kind : Int) (of name : B) (num : Int) (names vars : List B) (shapes : List Shape) (parts : List Tm) (at' : Int)
namespace Tm
def kind : Tm → Int | .mk k _ _ _ _ _ _ _ _ => k
def of : Tm → B | .mk _ o _ _ _ _ _ _ _ => o
def name : Tm → B | .mk _ _ n _ _ _ _ _ _ => n
def num : Tm → Int | .mk _ _ _ z _ _ _ _ _ => z
def names : Tm → List B | .mk _ _ _ _ ns _ _ _ _ => ns
def vars : Tm → List B | .mk _ _ _ _ _ vs _ _ _ => vs
def shapes : Tm → List Shape | .mk _ _ _ _ _ _ ss _ _ => ss
def parts : Tm → List Tm | .mk _ _ _ _ _ _ _ ps _ => ps
def at' : Tm → Int | .mk _ _ _ _ _ _ _ _ a => a
end Tm
mutual
def tsize : Tm → Nat
 | .mk _ _ _ _ _ _ _ ps _ => 1 + tsizes ps
def tsizes : List Tm → Nat
 | [] => 0
 | s :: r => tsize s + tsizes r
end
mutual
def tdeep : Tm → Nat
 | .mk _ _ _ _ _ _ _ ps _ => 1 + tdeeps ps
def tdeeps : List Tm → Nat
 | [] => 0
 | s :: r => max (tdeep s) (tdeeps r)
end
theorem tsize_pos (s : Tm) : 1 ≤ tsize s := by cases s; rw [tsize]; omega
theorem tsize_mk (k : Int) (o n : B) (z : Int) (ns vs : List B) (ss : List Shape) (ps : List Tm) (a : Int) : tsize (.mk k o n z ns vs ss ps a) = 1 + tsizes ps := by rw [tsize]
theorem tdeep_mk (k : Int) (o n : B) (z : Int) (ns vs : List B) (ss : List Shape) (ps : List Tm) (a : Int) : tdeep (.mk k o n z ns vs ss ps a) = 1 + tdeeps ps := by rw [tdeep]
theorem tsize_mem : ∀ {l : List Tm} {s : Tm}, s ∈ l → tsize s ≤ tsizes l
 | x :: r, s, h => by
  rw [tsizes]
  rcases List.mem_cons.1 h with rfl | h
  ·omega
  ·have := tsize_mem h; omega
theorem tsizes_take : ∀ {l : List Tm} {i : Nat} {s : Tm}, l[i]? = some s → tsizes (l.take (i + 1)) = tsizes (l.take i) + tsize s
 | x :: r, 0, s, h => by simp at h; subst h; simp [tsizes]
 | x :: r, i + 1, s, h => by
  have := tsizes_take (l := r) (i := i) (s := s) (by simpa using h)
  rw [List.take_succ_cons, List.take_succ_cons, tsizes, tsizes, this]
  omega
theorem tsizes_le : ∀ (l : List Tm) (i : Nat), tsizes (l.take i) ≤ tsizes l
 | [], i => by simp
 | x :: r, 0 => by simp [tsizes]
 | x :: r, i + 1 => by
  rw [List.take_succ_cons, tsizes, tsizes]
  have := tsizes_le r i
  omega
theorem tdeeps_take : ∀ {l : List Tm} {i : Nat} {s : Tm}, l[i]? = some s → tdeeps (l.take (i + 1)) = max (tdeeps (l.take i)) (tdeep s)
 | x :: r, 0, s, h => by simp at h; subst h; simp [tdeeps]
 | x :: r, i + 1, s, h => by
  have := tdeeps_take (l := r) (i := i) (s := s) (by simpa using h)
  rw [List.take_succ_cons, List.take_succ_cons, tdeeps, tdeeps, this]
  omega
mutual
def sopen : Shape → Bool
 | .mk k _ _ _ ps => decide (k ≠ 10) && sopens ps
def sopens : List Shape → Bool
 | [] => true
 | s :: r => sopen s && sopens r
end
theorem sopens_all : ∀ l : List Shape, sopens l = l.all sopen
 | [] => by rw [sopens]; rfl
 | s :: r => by rw [sopens, sopens_all r]; rfl
def typed (s : Shape) : Bool := decide (check s = 0) && sopen s
def tquot (t : B) : Bool := t.all (fun c => decide (32 ≤ c.toNat) || c == 10 || c == 9) && (utfBad t).isNone
def apartB (l : List B) : Bool := l.all isName && decide l.Nodup
def tbad (k : Int) (o : B) (z : Int) (ss : List Shape) (a : Int) : Bool := decide (a < 0 ∨ (z ≠ 0 ∧ k ≠ 1) ∨ (o ≠ [] ∧ k ≠ 5) ∨ ss.all typed = false)
def troom (ns vs : List B) (ss : List Shape) (ps : List Tm) (a b c d : Nat) : Bool := decide (ns.length = a ∧ vs.length = b ∧ ss.length = c ∧ ps.length = d)
def tkind (k : Int) (o n : B) (z : Int) (ns vs : List B) (ss : List Shape) (ps : List Tm) : Bool :=
 if k = 1 then n.isEmpty && decide (0 ≤ z) && decide (z ≤ 999999999999999) && troom ns vs ss ps 0 0 0 0
 else if k = 2 then tquot n && troom ns vs ss ps 0 0 0 0
 else if k = 3 ∨ k = 4 then n.isEmpty && troom ns vs ss ps 0 0 0 0
 else if k = 5 then isName n && (o.isEmpty || isName o) && troom ns vs ss ps 0 0 0 0
 else if k = 6 then n.isEmpty && decide (ns.length ≤ 4096) && apartB ns && troom ns vs ss ps ns.length 0 ns.length 1
 else if k = 7 then n.isEmpty && decide (0 < ps.length) && troom ns vs ss ps 0 0 0 ps.length
 else if k = 8 then n.isEmpty && apartB ns && troom ns vs ss ps ns.length 0 0 ns.length
 else if k = 9 ∨ k = 10 then isName n && troom ns vs ss ps 0 0 0 1
 else if k = 11 then n.isEmpty && troom ns vs ss ps 0 0 1 ps.length
 else if k = 12 then n.isEmpty && troom ns vs ss ps 0 0 1 3
 else if k = 13 then n.isEmpty && apartB ns && vs.all isName && troom ns vs ss ps ns.length ns.length (ns.length + 1) (ns.length + 1)
 else if k = 14 then isName n && troom ns vs ss ps 0 0 0 2
 else if k = 15 then n.isEmpty && troom ns vs ss ps 0 0 1 1
 else if k = 16 ∨ k = 17 then isUpper n && troom ns vs ss ps 0 0 0 1
 else false
def tfit : Tm → Bool
 | .mk k o n z ns vs ss ps a => !tbad k o z ss a && tkind k o n z ns vs ss ps
mutual
def tright : Tm → Bool
 | .mk k o n z ns vs ss ps a => tfit (.mk k o n z ns vs ss ps a) && trights ps
def trights : List Tm → Bool
 | [] => true
 | s :: r => tright s && trights r
end
theorem trights_all : ∀ l : List Tm, trights l = l.all tright
 | [] => by rw [trights]; rfl
 | s :: r => by rw [trights, trights_all r]; rfl
def tcheck (t : Tm) : Nat := if 4096 < tsize t then 3 else if 40 < tdeep t then 91 else if tright t then 0 else 80
mutual
def tmP (P : Tm → Prop) : Tm → Prop
 | .mk k o n z ns vs ss ps a => P (.mk k o n z ns vs ss ps a) ∧ tmPs P ps
def tmPs (P : Tm → Prop) : List Tm → Prop
 | [] => True
 | s :: r => tmP P s ∧ tmPs P r
end
theorem tmPs_mem {P : Tm → Prop} : ∀ {l : List Tm}, tmPs P l → ∀ s ∈ l, tmP P s
 | a :: r, h, s, hs => by
  rw [tmPs] at h
  rcases List.mem_cons.1 hs with rfl | hs
  ·exact h.1
  ·exact tmPs_mem h.2 s hs
end Go.Tms
end
