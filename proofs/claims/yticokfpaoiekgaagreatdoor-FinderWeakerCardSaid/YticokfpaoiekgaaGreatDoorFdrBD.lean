/- The law behind: one part of its proof (joined by program out of my own texts). No condition. -/
import Derived.Test.YticokfpaoiekgaaGreatDoorFdrBC
section
namespace Go.Shp
open Go.Lex
def ixL (l : List B) : List (B × Int) := l.zipIdx.map fun p => (p.1, (p.2 : Int))
theorem ixL_snoc (l : List B) (x : B) : ixL (l ++ [x]) = ixL l ++ [(x, (l.length : Int))] := by
 unfold ixL
 rw [List.zipIdx_append, List.map_append]
 simp
theorem ixL_mem {l : List B} {x : B} {i : Int} : (x, i) ∈ ixL l ↔ ∃ j : Nat, i = (j : Int) ∧ l[j]? = some x := by
 unfold ixL
 rw [List.mem_map]
 constructor
 ·rintro ⟨⟨y, j⟩, hm, he⟩
  simp only [Prod.mk.injEq] at he
  obtain ⟨rfl, rfl⟩ := he
  have := List.mem_zipIdx_iff_getElem?.1 hm
  exact ⟨j, rfl, this⟩
 ·rintro ⟨j, rfl, hj⟩
  exact ⟨(x, j), List.mem_zipIdx_iff_getElem?.2 hj, rfl⟩
end Go.Shp
namespace Go.Proofs.YticokfpaoiekgaaGreatDoor
open Go.Lift Go.Lex Go.Shp
theorem uMapTI : Tryz.prog.underlying 105 = some (.map 9 3) := by kernel_rfl
theorem uStr : Tryz.prog.underlying 9 = some .string := by kernel_rfl
theorem zInt : ∀ w, (zeroValue 3).run Tryz.prog w = .ok (.int .i64 0) w := fun w => by
 have hi : (Tryz.prog.info? 3).map (·.zero) = some (some (.int .i64 0)) := by kernel_rfl
 cases h : Tryz.prog.info? 3 with
 | none => rw [h] at hi; cases hi
 | some i =>
  rw [h] at hi
  have hz : i.zero = some (.int .i64 0) := by simpa using hi
  simp [zeroValue, typeInfo, h, hz]
theorem sfields_ok {w : World} {k : Int} {o n : ByteArray} {ns ps : Sl} {s : Shape} (hv : ShV w k o n ns ps s) (hd : s.names.Nodup) : Calls Tryz.prog 94 #[shArg k o n ns ps] w fun e w' => ∃ r, e = .returned (.map (some r)) ∧ MapT w' r (ixL s.names) ∧ Fr noB w w' := by
 obtain ⟨_, _, _, ⟨hns, hnl, _⟩, _⟩ := hv.parts
 have hnn := hns.1
 rw [List.length_map] at hnn
 apply c94
 unfold t94 wrZ ldSZ ldLZ nw5Z jn0Z lpIZ ixZ
 refine new_ok fun w1 m5 hm5 hs1 B1 F1 => ?_
 change Blk w1 m5 _ (shCells k o n ns ps) at B1
 refine B1.ldS (o := 3) rfl (mapT_make uMapTI fun w2 r hr M2 F2 => (B1.fr F2 fun h => h).ldS (o := 3) rfl ?_)
 refine join0_ok (fun w' => MapT w' r (ixL s.names) ∧ Fr noB w w') (fun kend hkend => ?_) fun w' ⟨h, F⟩ => ⟨r, rfl, h, F⟩
 refine countL_ok s.names.length (by omega) (fun i w' => MapT w' r (ixL (s.names.take i)) ∧ Fr noB w w') (fun rec i w3 hi hI hrec => ?_) ⟨M2, F1.tr F2⟩
 obtain ⟨M3, F3⟩ := hI
 refine ite_ok (fun hlt => ?_) fun hge => hkend _ ⟨?_, F3⟩
 ·have hlt : (i : Int) < (ns.n : Int) := of_decide_eq_true hlt
  obtain ⟨x, hx⟩ : ∃ x, s.names[i]? = some x := ⟨_, List.getElem?_eq_getElem (by omega)⟩
  refine join_in (vs := []) (str_ld (hns.fr F3) hx (mapT_put uMapTI uStr M3 (fun y hy he => ?_) fun w4 M4 F4 z4 => hrec (by omega) _ ⟨?_, F3.then F4 fun z hz h => ?_⟩))
  ·obtain ⟨j, _, hj⟩ := ixL_mem.1 (show (x, y.2) ∈ _ by rw [← he]; exact hy)
   have hjl := (List.getElem?_eq_some_iff.1 hj).1
   rw [List.length_take] at hjl
   rw [List.getElem?_take_of_lt (by omega)] at hj
   have := (List.getElem_inj (xs := s.names) (i := j) (j := i) (h₀ := by omega) (h₁ := by omega) hd).1 (by rw [(List.getElem?_eq_some_iff.1 hj).2, (List.getElem?_eq_some_iff.1 hx).2])
   omega
  ·have : s.names.take (i + 1) = s.names.take i ++ [x] := by rw [List.take_add_one, hx]; rfl
   rw [this, ixL_snoc, List.length_take, Nat.min_eq_left (by omega)]
   exact M4
  ·have := F1.size
   unfold oneB at h
   show False
   omega
 ·have hge : ¬ (i : Int) < (ns.n : Int) := of_decide_eq_false hge
  rw [List.take_of_length_le (by omega)] at M3
  exact M3
theorem swithin_ok {w : World} {f : FuncId} {F : Shape → Shape → Bool} {k : Int} {o n : ByteArray} {ns ps : Sl} {s : Shape} {k2 : Int} {o2 n2 : ByteArray} {ns2 ps2 : Sl} {s' : Shape} (hv : ShV w k o n ns ps s) (hv2 : ShV w k2 o2 n2 ns2 ps2 s')
  (hla : s.names.length = s.parts.length) (hlb : s'.names.length = s'.parts.length) (hdb : s'.names.Nodup) (hr : (resOf Tryz.prog f).isSome = true)
  (hf : ∀ p ∈ s.parts, ∀ q ∈ s'.parts, ∀ {w : World} {k : Int} {o n : ByteArray} {ns ps : Sl} {k2 : Int} {o2 n2 : ByteArray} {ns2 ps2 : Sl}, ShV w k o n ns ps p → ShV w k2 o2 n2 ns2 ps2 q → AnsB f #[shArg k o n ns ps, shArg k2 o2 n2 ns2 ps2] w (F p q)) :
  AnsB 63 #[shArg k o n ns ps, shArg k2 o2 n2 ns2 ps2, .func (.func f) #[] #[]] w (withinF F s.names s.parts s'.names s'.parts) := by
 obtain ⟨_, _, _, ⟨hns, hnl, hpn, hpl, _⟩, hps⟩ := hv.parts
 obtain ⟨_, _, _, ⟨hns2, hnl2, hpn2, hpl2, _⟩, hps2⟩ := hv2.parts
 have hnn := hns.1
 rw [List.length_map] at hnn
 apply c63
 unfold t63 wrZ svZ shZ ldSZ ldLZ ld5mZ ld5xZ nw5Z caZ jn0Z jnBZ lpIZ ixZ
 refine new_ok fun w1 m10 hm10 hs1 B1 F1 => new_ok fun w2 m11 hm11 hs2 C2 F2 => ?_
 have B2 := B1.fr F2 (fun h => h)
 change Blk w2 m10 _ (shCells k o n ns ps) at B2
 change Blk w2 m11 _ (shCells k2 o2 n2 ns2 ps2) at C2
 have F12 := F1.tr F2
 clear B1
 refine C2.ldV (call_ok (sfields_ok (hv2.fr F12) hdb) ?_)
 rintro e w3 ⟨r, rfl, M3, F3⟩
 refine ⟨((some r, ()), ()), rfl, ?_⟩
 refine (B2.fr F3 fun h => h).ldS (o := 3) rfl ?_
 generalize hT : withinF F s.names s.parts s'.names s'.parts = T
 have hrb : r < w3.heap.size := M3.lt
 refine join0_ok (fun w' => T = true ∧ Fr noB w3 w') (fun kend hkend => ?_) fun w' ⟨h, G⟩ => ⟨by rw [h], (F12.tr F3).tr G⟩
 refine countL_ok s.names.length (by omega) (fun i w' => (∀ (j : Nat) (x : B) (p : Shape), j < i → s.names[j]? = some x → s.parts[j]? = some p → ∃ q, find s'.names s'.parts x = some q ∧ F p q = true) ∧ Fr noB w3 w') (fun rec i w4 hi hI hrec => ?_) ⟨fun j x p h => by omega, Fr.refl _ _⟩
 obtain ⟨hdone, G4⟩ := hI
 have K4 := F3.tr G4
 refine ite_ok (fun hlt => ?_) fun hge => hkend _ ⟨?_, G4⟩
 rotate_left
 ·have hge : ¬ (i : Int) < (ns.n : Int) := of_decide_eq_false hge
  rw [← hT, withinF_iff]
  intro j x p hx hp
  have := (List.getElem?_eq_some_iff.1 hx).1
  exact hdone j x p (by omega) hx hp
 have hlt : (i : Int) < (ns.n : Int) := of_decide_eq_true hlt
 obtain ⟨x, hx⟩ : ∃ x, s.names[i]? = some x := ⟨_, List.getElem?_eq_getElem (by omega)⟩
 obtain ⟨p, hp⟩ : ∃ p, s.parts[i]? = some p := ⟨_, List.getElem?_eq_getElem (by omega)⟩
 have hpm := List.mem_of_getElem? hp
 have bad : (∀ q, find s'.names s'.parts x = some q → F p q = false) → T = false := fun h => by
  rw [← hT, Bool.eq_false_iff]
  intro hW
  obtain ⟨q, hq, hF⟩ := withinF_iff.1 hW i x p hx hp
  rw [h q hq] at hF
  cases hF
 refine join_in (vs := []) (str_ld (hns.fr (F12.tr K4)) hx (mapT_get uMapTI uStr zInt (M3.fr G4 fun h => h) (fun hno => ?_) fun ix hix => ?_))
 ·refine join1_ok (c := .bool) (fun (b : Bool) w5 => b = true ∧ Fr noB w3 w5) (fun kj hkj => drew_ok fun w5 F5 z5 => ite_yes rfl (hkj _ _ ⟨rfl, G4.tr F5⟩)) ?_
  rintro b w5 ⟨rfl, G5⟩
  refine ite_yes rfl ⟨?_, (F12.tr F3).tr G5⟩
  rw [bad fun q hq => ?_]
  obtain ⟨j, hj1, hj2⟩ := (find_iff hdb).1 hq
  exact absurd rfl (hno (x, (j : Int)) (ixL_mem.2 ⟨j, rfl, hj1⟩))
 ·obtain ⟨j, rfl, hj⟩ := ixL_mem.1 hix
  have hjl := (List.getElem?_eq_some_iff.1 hj).1
  obtain ⟨q, hq⟩ : ∃ q, s'.parts[j]? = some q := ⟨_, List.getElem?_eq_getElem (by omega)⟩
  have hqm := List.mem_of_getElem? hq
  have hfq := (find_iff hdb).2 ⟨j, hj, hq⟩
  refine join1_ok (c := .bool) (fun (b : Bool) w5 => b = (!F p q) ∧ Fr noB w3 w5) (fun kj hkj => drew_ok fun w5 F5 z5 => ite_no rfl ?_) ?_
  ·have G5 := G4.tr F5
   have K5 := F3.tr G5
   refine (B2.fr K5 fun h => h).ldS (o := 4) rfl (part_ld (hps.fr (F12.tr K5)) hp hpn fun k3 o3 n3 ns3 ps3 hv3 => (C2.fr K5 fun h => h).ldS (o := 4) rfl (part_ld (hps2.fr (F12.tr K5)) hq hpn2 fun k4 o4 n4 ns4 ps4 hv4 => ?_))
   refine callBV_ok hr (hf p hpm q hqm hv3 hv4) fun w6 F6 => ?_
   have K6 := K5.tr F6
   exact keep_cons ((C2.fr K6 fun h => h).held1 rfl) (keep_cons ((B2.fr K6 fun h => h).held1 rfl) (keep_nil (hkj _ _ ⟨rfl, G5.tr F6⟩)))
  rintro b w5 ⟨rfl, G5⟩
  refine ite_ok (fun hb => ⟨?_, (F12.tr F3).tr G5⟩) fun hb => hrec (by omega) _ ⟨fun j' x' p' hj' hx' hp' => ?_, G5⟩
  ·rw [bad fun q' hq' => ?_]
   rw [hfq] at hq'
   cases hq'
   simpa using hb
  ·rcases Nat.lt_succ_iff_lt_or_eq.1 hj' with hj' | rfl
   ·exact hdone j' x' p' hj' hx' hp'
   ·rw [hx] at hx'
    rw [hp] at hp'
    cases hx'
    cases hp'
    exact ⟨q, hfq, by simpa using hb⟩
theorem resBelow : (resOf Tryz.prog 37).isSome = true := by kernel_rfl
theorem resBelow1 : (resOf Tryz.prog 64).isSome = true := by kernel_rfl
set_option maxHeartbeats 2000000 in
theorem sbelow_ok : BelowC
 | 0, s, _, h, _, _, _, _, _, _, _, _, _, _, _, _, _, _, _, _ => by have := deep_pos s; omega
 | d + 1, .mk kA oA nA nsA psA, .mk kB oB nB nsB psB, hda, hdb, hfa0, hfb0, w, k, o, n, ns, ps, k2, o2, n2, ns2, ps2, hv, hv2 => by
  have ih := sbelow_ok d
  rw [deep_mk] at hda hdb
  obtain ⟨fa, hfa⟩ := allFit_parts hfa0
  obtain ⟨fb, hfb⟩ := allFit_parts hfb0
  obtain ⟨ek, eo, en, ⟨hns, hnl, hpn, hpl, _⟩, hps⟩ := hv.parts
  obtain ⟨ek2, eo2, en2, ⟨hns2, hnl2, hpn2, hpl2, _⟩, hps2⟩ := hv2.parts
  change k = kA at ek
  change bl o = oA at eo
  change bl n = nA at en
  change k2 = kB at ek2
  change bl o2 = oB at eo2
  change bl n2 = nB at en2
  change ps.n = psA.length at hpn
  change ps2.n = psB.length at hpn2
  change psA.length < 4611686018427387904 at hpl
  change psB.length < 4611686018427387904 at hpl2
  change ShL w ps.a 0 psA at hps
  change ShL w ps2.a 0 psB at hps2
  apply c37
  unfold t37 wrZ svZ shZ ldIZ ldSZ ldLZ ld5mZ ld5xZ nw5Z caBZ jn0Z jnBZ lpIZ ixZ
  refine new_ok fun w1 m10 hm10 hs1 B1 F1 => new_ok fun w2 m11 hm11 hs2 C2 F2 => ?_
  have B2 := B1.fr F2 (fun h => h)
  change Blk w2 m10 _ (shCells k o n ns ps) at B2
  change Blk w2 m11 _ (shCells k2 o2 n2 ns2 ps2) at C2
  have F12 := F1.tr F2
  clear B1
  generalize hT : belowF (d + 1) (.mk kA oA nA nsA psA) (.mk kB oB nB nsB psB) = T
  rw [belowF] at hT
  replace hT := hT.symm
  refine B2.ld (c := .int .i64) (x := k) (o := 0) rfl (C2.ld (c := .int .i64) (x := k2) (o := 0) rfl (ite_ok (fun h1 => ?_) fun h1 => ?_))
  ·have h1 : kA ≠ kB := by rw [← ek, ← ek2]; simpa using h1
   refine ⟨?_, F12⟩
   rw [hT, if_pos h1]
  have h1 : kA = kB := by rw [← ek, ← ek2]; simpa using h1
  rw [if_neg (by simpa using h1)] at hT
  refine B2.ld (c := .int .i64) (x := k) (o := 0) rfl (join_in (vs := []) ?_)
  refine join1_ok (c := .bool) (fun (b : Bool) w' => w' = w2 ∧ b = decide (kA = 9 ∨ kA = 10)) (fun kj hkj => ite_ok (fun h => hkj _ _ ⟨rfl, ?_⟩) fun h => hkj _ _ ⟨rfl, ?_⟩) ?_
  ·have h : k = 9 := by simpa using h
   rw [Bool.eq_iff_iff, beq_iff_eq, decide_eq_true_eq]
   omega
  ·have h : ¬ k = 9 := by simpa using h
   rw [Bool.eq_iff_iff, beq_iff_eq, decide_eq_true_eq]
   omega
  rintro b w' ⟨hw', rfl⟩
  replace hw' := hw'.symm
  subst hw'
  refine ite_ok (fun h => ?_) fun h9 => ?_
  ·have h : kA = 9 ∨ kA = 10 := of_decide_eq_true h
   rw [if_pos h] at hT
   refine join1_ok (c := .bool) (fun (b : Bool) w' => b = T ∧ Fr noB w w') (fun kj hkj => B2.ld (c := .str) (x := o) (o := 1) rfl (C2.ld (c := .str) (x := o2) (o := 1) rfl ?_)) (fun b w' h => done_b h)
   rw [eq_bl, eo, eo2]
   refine ite_ok (fun h => B2.ld (c := .str) (x := n) (o := 2) rfl (C2.ld (c := .str) (x := n2) (o := 2) rfl (hkj _ _ ⟨?_, F12⟩))) fun h => hkj _ _ ⟨by rw [hT, h]; rfl, F12⟩
   rw [eq_bl, en, en2, hT, h]
   rfl
  have h9 : ¬ (kA = 9 ∨ kA = 10) := of_decide_eq_false h9
  rw [if_neg h9] at hT
  refine ite_ok (fun h => ?_) fun h5 => ?_
  ·have h : kA = 5 := by rw [← ek]; simpa using h
   rw [if_neg (by omega), if_neg (by omega)] at hT
   have hl1 : psA.length = 1 := by subst h; exact fits_five fa
   have hl2 : psB.length = 1 := by
    have : kB = 5 := by omega
    subst this
    exact fits_five fb
   obtain ⟨p, rfl⟩ := List.length_eq_one_iff.1 hl1
   obtain ⟨q, rfl⟩ := List.length_eq_one_iff.1 hl2
   have hdp := deep_mem (l := [p]) (s := p) (by simp)
   have hdq := deep_mem (l := [q]) (s := q) (by simp)
   refine drew_ok fun w3 F3 z3 => (B2.fr F3 fun h => h).ldS (o := 4) rfl (part_ld (i := 0) (hps.fr (F12.tr F3)) rfl hpn fun k3 o3 n3 ns3 ps3 hv3 => (C2.fr F3 fun h => h).ldS (o := 4) rfl (part_ld (i := 0) (hps2.fr (F12.tr F3)) rfl hpn2 fun k4 o4 n4 ns4 ps4 hv4 => ?_))
   refine callB_ok (ih p q (by omega) (by omega) (hfa p (by simp)) (hfb q (by simp)) hv3 hv4) fun w4 F4 => ?_
   have G4 := F3.tr F4
   refine keep_cons ((C2.fr G4 fun h => h).held1 rfl) (keep_cons ((B2.fr G4 fun h => h).held1 rfl) (keep_nil ⟨?_, F12.tr G4⟩))
   rw [hT]
   rfl
  have h5 : ¬ kA = 5 := by rw [← ek]; simpa using h5
  refine ite_ok (fun h => ?_) fun h6 => ?_
  ·have h : kA = 6 := by rw [← ek]; simpa using h
   rw [if_pos h] at hT
   obtain ⟨hla, hda2⟩ := fits_named fa (.inl h)
   obtain ⟨hlb, hdb2⟩ := fits_named fb (.inl (by omega))
   refine C2.ldV (B2.ldV (callB_ok (swithin_ok (F := fun x y => belowF d y x) (hv2.fr F12) (hv.fr F12) hlb hla hda2 resBelow1 fun p hp q hq => ?_) fun w3 F3 => ⟨?_, F12.tr F3⟩))
   ·intro wx k3 o3 n3 ns3 ps3 k4 o4 n4 ns4 ps4 hv3 hv4
    have hdp := deep_mem hp
    have hdq := deep_mem hq
    change deep p ≤ deeps psB at hdp
    change deep q ≤ deeps psA at hdq
    apply c64
    unfold t64 shZ ld5mZ nw5Z caBZ
    refine new_ok fun w4 m4 hm4 hs4 B4 F4 => new_ok fun w5 m5 hm5 hs5 C5 F5 => ?_
    have B5 := B4.fr F5 (fun h => h)
    change Blk w5 m4 _ (shCells k3 o3 n3 ns3 ps3) at B5
    change Blk w5 m5 _ (shCells k4 o4 n4 ns4 ps4) at C5
    exact C5.ldV (B5.ldV (callB_ok (ih q p (by omega) (by omega) (hfa q hq) (hfb p hp) (hv4.fr (F4.tr F5)) (hv3.fr (F4.tr F5))) fun w6 F6 => ⟨rfl, (F4.tr F5).tr F6⟩))
   ·rw [hT]
    rfl
  have h6 : ¬ kA = 6 := by rw [← ek]; simpa using h6
  rw [if_neg h6] at hT
  refine ite_ok (fun h => ?_) fun h7 => ?_
  ·have h : kA = 7 := by rw [← ek]; simpa using h
   rw [if_pos h] at hT
   obtain ⟨hla, hda2⟩ := fits_named fa (.inr h)
   obtain ⟨hlb, hdb2⟩ := fits_named fb (.inr (by omega))
   refine B2.ldV (C2.ldV (callB_ok (swithin_ok (F := belowF d) (hv.fr F12) (hv2.fr F12) hla hlb hdb2 resBelow fun p hp q hq => ?_) fun w3 F3 => ⟨?_, F12.tr F3⟩))
   ·intro wx k3 o3 n3 ns3 ps3 k4 o4 n4 ns4 ps4 hv3 hv4
    have hdp := deep_mem hp
    have hdq := deep_mem hq
    change deep p ≤ deeps psA at hdp
    change deep q ≤ deeps psB at hdq
    exact ih p q (by omega) (by omega) (hfa p hp) (hfb q hq) hv3 hv4
   ·rw [hT]
    rfl
  have h7 : ¬ kA = 7 := by rw [← ek]; simpa using h7
  rw [if_neg h7] at hT
  refine join_in (vs := []) (ite_ok (fun h8 => ?_) fun h8 => ?_)
  rotate_left
  ·have h8 : ¬ kA = 8 := by rw [← ek]; simpa using h8
   refine ⟨?_, F12⟩
   rw [hT, (fits_leaf fa ⟨h5, h6, h7, h8⟩).1, (fits_leaf fb (by omega)).1]
   rfl
  have h8 : kA = 8 := by rw [← ek]; simpa using h8
  have hpos : 0 < psA.length := by subst h8; exact fits_eight fa
  have ew : IntKind.wrap .i64 (((ps.n : Nat) : Int) - 1) = ((ps.n - 1 : Nat) : Int) := by rw [wrap_ok (by omega) (by omega)]; omega
  have ew2 : IntKind.wrap .i64 ((((ps.n - 1 : Nat) : Nat) : Int) + 1) = ((ps.n : Nat) : Int) := by rw [wrap_ok (by omega) (by omega)]; omega
  refine B2.ldS (o := 4) rfl ?_
  rw [ew, ew2]
  obtain ⟨pl, hplast⟩ : ∃ p, psA[ps.n - 1]? = some p := ⟨_, List.getElem?_eq_getElem (by omega)⟩
  refine join1_ok (c := .bool) (fun (b : Bool) w' => b = !(decide (psA.length = psB.length) && (psB[ps.n - 1]?).any fun q => belowF d pl q) ∧ Fr noB w2 w') (fun kj hkj => drew_ok fun w3 F3 z3 => (C2.fr F3 fun h => h).ldS (o := 4) rfl (ite_ok (fun hl => hkj _ _ ⟨?_, F3⟩) fun hl => ?_)) ?_
  ·have hl : ((ps2.n : Nat) : Int) ≠ (ps.n : Nat) := by simpa using hl
   rw [decide_eq_false (by omega)]
   rfl
  ·have hl : ((ps2.n : Nat) : Int) = (ps.n : Nat) := by simpa using hl
   obtain ⟨ql, hqlast⟩ : ∃ q, psB[ps.n - 1]? = some q := ⟨_, List.getElem?_eq_getElem (by omega)⟩
   have hdp := deep_mem (List.mem_of_getElem? hplast)
   have hdq := deep_mem (List.mem_of_getElem? hqlast)
   refine (B2.fr F3 fun h => h).ldS (o := 4) rfl (part_ld (hps.fr (F12.tr F3)) hplast hpn fun k3 o3 n3 ns3 ps3 hv3 => (C2.fr F3 fun h => h).ldS (o := 4) rfl (part_ld (hps2.fr (F12.tr F3)) hqlast hpn2 fun k4 o4 n4 ns4 ps4 hv4 => ?_))
   refine callB_ok (ih pl ql (by omega) (by omega) (hfa pl (List.mem_of_getElem? hplast)) (hfb ql (List.mem_of_getElem? hqlast)) hv3 hv4) fun w4 F4 => ?_
   have G4 := F3.tr F4
   refine keep_cons ((C2.fr G4 fun h => h).held1 rfl) (keep_cons ((B2.fr G4 fun h => h).held1 rfl) (keep_cons ((C2.fr G4 fun h => h).held1 rfl) (keep_nil (hkj _ _ ⟨?_, G4⟩))))
   rw [decide_eq_true (by omega), hqlast]
   rfl
  rintro b w3 ⟨rfl, G3⟩
  refine ite_ok (fun hb => ⟨?_, F12.tr G3⟩) fun hb => ?_
  ·have hb : (decide (psA.length = psB.length) && (psB[ps.n - 1]?).any fun q => belowF d pl q) = false := by rw [Bool.not_eq_true'] at hb; exact hb
   have : T = false := by
    rw [hT, Bool.eq_false_iff]
    intro h
    obtain ⟨hl, hall⟩ := funAll_iff.1 h
    rw [decide_eq_true hl, Bool.true_and] at hb
    obtain ⟨ql, hqlast⟩ : ∃ q, psB[ps.n - 1]? = some q := ⟨_, List.getElem?_eq_getElem (by omega)⟩
    have := hall _ pl ql hplast hqlast
    rw [if_pos (by omega)] at this
    rw [hqlast] at hb
    change belowF d pl ql = false at hb
    rw [this] at hb
    cases hb
   rw [this]
  have hb : (decide (psA.length = psB.length) && (psB[ps.n - 1]?).any fun q => belowF d pl q) = true := by simpa using hb
  rw [Bool.and_eq_true] at hb
  obtain ⟨hl, hlast⟩ := hb
  have hl : psA.length = psB.length := of_decide_eq_true hl
  refine join0_ok (fun w4 => T = true ∧ Fr noB w2 w4) (fun kend hkend => ?_) fun w4 ⟨h, G4⟩ => ⟨by rw [h], F12.tr G4⟩
  refine countL_ok (ps.n - 1) (by omega) (fun i w4 => (∀ (j : Nat) (p q : Shape), j < i → psA[j]? = some p → psB[j]? = some q → belowF d q p = true) ∧ Fr noB w2 w4) (fun rec i w4 hi hI hrec => ?_) ⟨fun j x p h => by omega, G3⟩
  obtain ⟨hdone, G4⟩ := hI
  refine ite_ok (fun hlt => ?_) fun hge => hkend _ ⟨?_, G4⟩
  ·have hlt : (i : Int) < ((ps.n - 1 : Nat) : Int) := of_decide_eq_true hlt
   obtain ⟨p, hp⟩ : ∃ p, psA[i]? = some p := ⟨_, List.getElem?_eq_getElem (by omega)⟩
   obtain ⟨q, hq⟩ : ∃ q, psB[i]? = some q := ⟨_, List.getElem?_eq_getElem (by omega)⟩
   have hpm := List.mem_of_getElem? hp
   have hqm := List.mem_of_getElem? hq
   have hdp := deep_mem hpm
   have hdq := deep_mem hqm
   refine join_in (vs := []) (drew_ok fun w5 F5 z5 => ?_)
   have G5 := G4.tr F5
   refine (C2.fr G5 fun h => h).ldS (o := 4) rfl (part_ld (hps2.fr (F12.tr G5)) hq hpn2 fun k4 o4 n4 ns4 ps4 hv4 => (B2.fr G5 fun h => h).ldS (o := 4) rfl (part_ld (hps.fr (F12.tr G5)) hp hpn fun k3 o3 n3 ns3 ps3 hv3 => ?_))
   refine callB_ok (ih q p (by omega) (by omega) (hfb q hqm) (hfa p hpm) hv4 hv3) fun w6 F6 => ?_
   have G6 := G5.tr F6
   refine keep_cons ((B2.fr G6 fun h => h).held1 rfl) (keep_cons ((C2.fr G6 fun h => h).held1 rfl) (keep_nil (ite_ok (fun h => ⟨?_, F12.tr G6⟩) fun h => hrec (by omega) _ ⟨fun j p' q' hj hp' hq' => ?_, G6⟩)))
   ·have h : belowF d q p = false := by simpa using h
    have : T = false := by
     rw [hT, Bool.eq_false_iff]
     intro h'
     have := (funAll_iff.1 h').2 i p q hp hq
     rw [if_neg (by omega)] at this
     rw [this] at h
     cases h
    rw [this]
   ·rcases Nat.lt_succ_iff_lt_or_eq.1 hj with hj | rfl
    ·exact hdone j p' q' hj hp' hq'
    ·rw [hp] at hp'
     rw [hq] at hq'
     cases hp'
     cases hq'
     simpa using h
  ·have hge : ¬ (i : Int) < ((ps.n - 1 : Nat) : Int) := of_decide_eq_false hge
   rw [hT, funAll_iff]
   refine ⟨hl, fun j p q hp hq => ?_⟩
   have hjl := (List.getElem?_eq_some_iff.1 hp).1
   by_cases hj : j + 1 = psA.length
   ·rw [if_pos hj]
    have ej : ps.n - 1 = j := by omega
    rw [ej] at hplast hlast
    rw [hp] at hplast
    cases hplast
    rw [hq] at hlast
    exact hlast
   ·rw [if_neg hj]
    exact hdone j p q (by omega) hp hq
end Go.Proofs.YticokfpaoiekgaaGreatDoor
end
section
namespace Go.Proofs.YticokfpaoiekgaaGreatDoor
open Go.Lift Go.Lex Go.Shp
theorem sPlain_ok (hC : CheckC) {s : Shape} {w : World} {k : Int} {o n : ByteArray} {ns ps : Sl} (hv : ShV w k o n ns ps s) : AnsB 20 #[shArg k o n ns ps] w (check s == 0 && plainS s) := by
 apply c20
 unfold t20 shZ ld5mZ nw5Z caBZ caIZ jnBZ
 refine new_ok fun w1 m5 hm5 hs1 B1 F1 => ?_
 change Blk w1 m5 _ (shCells k o n ns ps) at B1
 refine join1_ok (c := .bool) (fun (b : Bool) w' => b = (check s == 0 && plainS s) ∧ Fr noB w w') (fun kj hkj => ?_) (fun b w' h => done_b h)
 refine B1.ldV (callI_ok (hC (hv.fr F1)) fun w2 F2 => ?_)
 have F12 := F1.tr F2
 refine ite_ok (fun h1 => ?_) fun h1 => hkj _ _ ⟨?_, F12⟩
 ·have h1 : check s = 0 := nat0 h1
  refine (B1.fr F2 (fun h => h)).ldV (callB_ok (gplain_ok (size s) s (Nat.le_refl _) (hv.fr F12)) fun w3 F3 => hkj _ _ ⟨?_, F12.tr F3⟩)
  rw [h1]
  rfl
 ·have h1 : (check s == 0) = false := by
   rw [beq_eq_false_iff_ne]
   intro e
   rw [e] at h1
   cases h1
  rw [h1]
  rfl
end Go.Proofs.YticokfpaoiekgaaGreatDoor
end
section
namespace Go.Proofs.YticokfpaoiekgaaGreatDoor
open Go.Lift Go.Lex Go.Shp
theorem checkC : CheckC := scheck_ok scountC snamedC
theorem nearC : NearC := snear_ok checkC
section
variable {s s' : Shape} {w : World} {k : Int} {o n : ByteArray} {ns ps : Sl} {k2 : Int} {o2 n2 : ByteArray} {ns2 ps2 : Sl}
theorem Rank_ok (hv : ShV w k o n ns ps s) (hv2 : ShV w k2 o2 n2 ns2 ps2 s') :
  Calls Tryz.prog 9 #[shArg k o n ns ps, shArg k2 o2 n2 ns2 ps2] w fun e w' => e = .returned (.int .i64 ((rank s s' : Nat) : Int)) ∧ Fr noB w w' := sRank_ok checkC ssortedC sbelow_ok nearC hv hv2
theorem Plain_ok (hv : ShV w k o n ns ps s) : AnsB 20 #[shArg k o n ns ps] w (check s == 0 && plainS s) := sPlain_ok checkC hv
end
end Go.Proofs.YticokfpaoiekgaaGreatDoor
end
section
namespace Go.Proofs.YticokfpaoiekgaaGreatDoor
open Go.Lift Go.Lex Go.Shp Go.Prs
section
variable {w : World} {p : Nat} {sl : Sl} {l : List Tok} {s : PS}
theorem pwhole_ok (C : Cur w p sl l s) : Calls Tryz.prog 109 #[.pointer (some ⟨p, 0, none⟩)] w (ParP w p sl l (wholeF l s).1 (wholeF l s).2) := by
 have hpw : p < w.heap.size := C.b.lt
 apply c109
 unfold t109 ivZ shZ ld5mZ st5Z nz5Z ca0Z caBZ caIZ ca5Z caZ jn0Z
 refine new_ok fun w1 m1 hm1 hs1 B1 F1 => nn_ok (callTok_ok (ppeek_ok (C.fr0 F1)) fun w2 F2 => ?_)
 have G2 := F1.tr F2
 have C2 := C.fr0 G2
 have hz2 := F2.size
 refine callPar_ok (shape_ok (l.length + 1) s w2 C2 (fun _ => by omega) (fun _ => by omega)) fun k o n ns ps w3 C3 F3 hv => ?_
 generalize hq : shapeF l (l.length + 1) s = q at C3 hv
 obtain ⟨q, s'⟩ := q
 have hW : wholeF l s = if s'.err = 0 ∧ check q ≠ 0 then (q, fail (check q) (peek l s.at').at' s') else (q, s') := by
  unfold wholeF
  rw [hq]
 have hz3 := F3.size
 refine new_ok fun w4 m11 hm11 hs4 B4 F4 => fill_ok B4 rfl rfl rfl rfl rfl rfl fun w5 B5 F5 => ?_
 have G35 : Fr noB w3 w5 := F4.fill (by omega) F5
 change Blk w5 m11 _ (shCells k o n ns ps) at B5
 have C5 := C3.fr0 G35
 have hv5 : ShV w5 k o n ns ps q := hv w5 (G35.mono fun _ _ h => h.elim)
 have B15 : Blk w5 m1 _ _ := (B1.fr F2 (fun h => h)).fr (F3.then G35 fun _ _ h => h.elim) (fun h => by change m1 = p at h; omega)
 have N5 : Fr (oneB p) w w5 := st_fr (G2.mono fun _ _ h => h.elim) (F3.then G35 fun _ _ h => h.elim)
 refine nn_ok (callB_ok (pbad_ok C5) fun w6 F6 => ?_)
 refine join0_ok (fun w' => Cur w' p sl l (wholeF l s).2 ∧ Fr (oneB p) w6 w') (fun kj hkj => ?_) ?_
 ·refine ite_ok (fun hb => ?_) fun hb => hkj _ ⟨?_, Fr.refl _ _⟩
  rotate_left
  ·have hb : s'.err ≠ 0 := by simpa using hb
   rw [hW, if_neg (fun h => hb h.1)]
   exact C5.fr0 F6
  have hb : s'.err = 0 := by simpa using hb
  refine (B5.fr F6 (fun h => h)).ldV (callI_ok (checkC (hv5.fr F6)) fun w7 F7 => ?_)
  refine join_in (vs := []) (ite_ok (fun hc => ?_) fun hc => hkj _ ⟨?_, F7.mono fun _ _ h => h.elim⟩)
  ·have hc : check q ≠ 0 := by
    intro e
    rw [e] at hc
    cases hc
   have C7 := (C5.fr0 F6).fr0 F7
   refine nn_ok (call_ok (pfail_ok C7 (check q) (peek l s.at').at') ?_)
   rintro e w8 ⟨rfl, C8, F8⟩
   refine ⟨(), rfl, hkj _ ⟨?_, st_fr (F7.mono fun _ _ h => h.elim) F8⟩⟩
   rw [hW, if_pos ⟨hb, hc⟩]
   exact C8
  ·have hc : check q = 0 := nat0 (by simpa using hc)
   rw [hW, if_neg (fun h => h.2 hc)]
   exact (C5.fr0 F6).fr0 F7
 rintro w7 ⟨C7, F7⟩
 have hq1 : (wholeF l s).1 = q := by rw [hW]; split <;> rfl
 have F57 : Fr (oneB p) w5 w7 := st_fr (F6.mono fun _ _ h => h.elim) F7
 have hz7 := F57.size
 refine (B5.fr F57 (fun h => by change m11 = p at h; omega)).ldV (fill_ok (B15.fr F57 (fun h => by change m1 = p at h; omega)) rfl rfl rfl rfl rfl rfl fun w8 B8 F8 => ?_)
 change Blk w8 m1 _ (shCells k o n ns ps) at B8
 rw [hq1]
 refine B8.ldV ⟨k, o, n, ns, ps, rfl, C7.fr F8 (fun b hb h => by change b = m1 at h; omega), (st_fr N5 F57).then F8 fun x hx h => by change x = m1 at h; omega, fun w'' F'' => hv w'' ?_⟩
 have h1 : Fr (fun b => b < w2.heap.size) w3 w7 := (G35.mono fun _ _ h => h.elim : Fr (fun b => b < w2.heap.size) w3 w5).then F57 fun x hx h => by change x = p at h; omega
 have h2 : Fr (fun b => b < w2.heap.size) w3 w8 := h1.then F8 fun x hx h => by change x = m1 at h; omega
 exact h2.then F'' fun x hx h => by omega
end
theorem callPt_ok {R : Ending → World → Prop} {w : World} {f : FuncId} {args : Array Value} {Y : Nat → World → Prop} (hc : Calls Tryz.prog f args w fun e w' => ∃ p, e = .returned (.pointer (some ⟨p, 0, none⟩)) ∧ Y p w') {K : Option Addr → G} (h : ∀ p w', Y p w' → K (some ⟨p, 0, none⟩) R w') : callG Tryz.prog f args [.one .ptr] K R w :=
 call_ok hc fun _ w' ⟨p, he, hy⟩ => ⟨((some ⟨p, 0, none⟩, ()), ()), he, h p w' hy⟩
structure TokRow (w : World) (sl : Sl) (l : List Tok) : Prop where
 n : sl.n = l.length
 len : l.length ≤ 4097
 txt : ∀ t ∈ l, t.text.length < 4611686018427387904
 toks : ∀ (k : Nat) t, l[k]? = some t → ∃ a, sl.a = some a ∧ a.block < w.heap.size ∧ Held w (a.add (k * 3), tokCells t)
theorem TokRow.fr {w w' : World} {sl : Sl} {l : List Tok} (h : TokRow w sl l) (F : Fr noB w w') : TokRow w' sl l :=
 ⟨h.n, h.len, h.txt, fun k t hk => by
  obtain ⟨a, h1, h2, h3⟩ := h.toks k t hk
  exact ⟨a, h1, Nat.lt_of_lt_of_le h2 F.size, F.held h3 fun h => h⟩⟩
def TypP (w : World) (q : Shape) (at' : Nat) (e : Ending) (w' : World) : Prop := ∃ (k : Int) (o n : ByteArray) (ns ps : Sl), e = .returned (.tuple #[shArg k o n ns ps, .int .i64 (at' : Int), .agg #[.int .i64 0, .int .i64 0]]) ∧ Fr noB w w' ∧ ∀ w'', Fr (fun b => b < w.heap.size) w' w'' → ShV w'' k o n ns ps q
theorem begin_ok {w : World} {sl : Sl} {l : List Tok} (T : TokRow w sl l) : Calls Tryz.prog 107 #[.slice sl.a sl.n sl.c, .int .i64 0] w fun e w' => ∃ p, e = .returned (.pointer (some ⟨p, 0, none⟩)) ∧ Cur w' p sl l ⟨0, 0, 0⟩ ∧ w.heap.size ≤ p ∧ Fr noB w w' := by
 have hn := T.n
 have hl := T.len
 apply c107
 unfold t107 ivZ svZ nwZ ca0Z jn0Z jnBZ
 refine new_ok fun w1 m2 hm2 hs1 B1 F1 => ?_
 have C1 : Cur w1 m2 sl l ⟨0, 0, 0⟩ := ⟨B1, hn, by omega, T.txt, Nat.zero_le _, fun k t hk => by
  obtain ⟨a, h1, h2, h3⟩ := T.toks k t hk
  exact ⟨a, h1, by omega, F1.held h3 fun h => h⟩⟩
 refine join1_ok (c := .bool) (fun (b : Bool) w' => b = false ∧ w' = w1) (fun kj hkj => ite_no rfl (hkj _ _ ⟨decide_eq_false (by omega), rfl⟩)) ?_
 rintro b w2 ⟨rfl, rfl⟩
 refine join0_ok (fun w' => w' = w2) (fun kj hkj => ite_no rfl (join_in (vs := []) (ite_no (decide_eq_false (by omega)) (hkj _ rfl)))) ?_
 rintro w3 rfl
 exact ⟨m2, rfl, C1, by omega, F1⟩
set_option maxHeartbeats 2000000 in
theorem Type_ok {w : World} {sl : Sl} {l : List Tok} (T : TokRow w sl l) {q : Shape} {s' : PS} (hW : wholeF l ⟨0, 0, 0⟩ = (q, s')) (he : s'.err = 0) : Calls Tryz.prog 81 #[.slice sl.a sl.n sl.c, .int .i64 0] w (TypP w q s'.at') := by
 apply c81
 unfold t81 ivZ svZ ldIZ ld5mZ st5Z nwZ nz5Z caBZ ca5Z caZ
 refine new_ok fun w1 m2 hm2 hs1 A1 F1 => new_ok fun w2 m3 hm3 hs2 B2 F2 => ?_
 have G2 := F1.tr F2
 refine callPt_ok (Y := fun p w' => Cur w' p sl l ⟨0, 0, 0⟩ ∧ w2.heap.size ≤ p ∧ Fr noB w2 w') (begin_ok (T.fr G2)) fun p w3 ⟨C3, hp3, F3⟩ => ?_
 refine nn_ok (callB_ok (pbad_ok C3) fun w4 F4 => ite_no rfl ?_)
 have C4 := C3.fr0 F4
 have hw := pwhole_ok C4
 rw [hW] at hw
 refine callPar_ok hw fun k o n ns ps w5 C5 F5 hv => ?_
 have hz3 := F3.size
 have hz4 := F4.size
 have hz5 := F5.size
 have hpw : p < w3.heap.size := C3.b.lt
 refine new_ok fun w6 m22 hm22 hs6 B6 F6 => fill_ok B6 rfl rfl rfl rfl rfl rfl fun w7 B7 F7 => ?_
 change Blk w7 m22 _ (shCells k o n ns ps) at B7
 have G57 : Fr noB w5 w7 := F6.fill (by omega) F7
 have C7 := C5.fr0 G57
 refine nn_ok (callB_ok (pbad_ok C7) fun w8 F8 => ite_no (by rw [he]; rfl) (drew_ok fun w9 F9 z9 => ?_))
 have G79 := F8.tr F9
 have C9 := C7.fr0 G79
 have B9 := B7.fr G79 (fun h => h)
 have G34 := F3.tr F4
 have H59 := G57.tr G79
 have A9 : Blk w9 m2 _ _ := ((A1.fr (F2.tr G34) (fun h => h)).fr F5 (fun h => by change m2 = p at h; omega)).fr H59 (fun h => h)
 have M9 : Blk w9 m3 _ _ := ((B2.fr G34 (fun h => h)).fr F5 (fun h => by change m3 = p at h; omega)).fr H59 (fun h => h)
 refine B9.ldV (nn_ok (C9.b.ld (c := .int .i64) (x := (s'.at' : Int)) (o := 1) rfl (fill_ok A9 rfl rfl rfl rfl rfl rfl fun w10 A10 F10 => ?_)))
 change Blk w10 m2 _ (shCells k o n ns ps) at A10
 have C10 := C9.b.fr F10 (fun h => by change p = m2 at h; omega)
 refine keep_cons (held_one (C10.cell (o := 1) rfl)) (keep_nil ?_)
 have M10 := M9.fr F10 (fun h => by change m3 = m2 at h; omega)
 refine M10.st (o := 0) rfl (by simp) fun w11 M11 F11 => M11.st (o := 1) rfl (by simp) fun w12 M12 F12 => ?_
 have F112 := st_fr F11 F12
 have A12 := A10.fr F112 (fun h => by change m2 = m3 at h; omega)
 have hz2 := G2.size
 have hz1 := F1.size
 have P5 : Fr noB w w5 := (G2.tr G34).then F5 fun x hx h => by change x = p at h; omega
 have P9 : Fr noB w w9 := P5.tr H59
 have P10 : Fr noB w w10 := P9.then F10 fun x hx h => by change x = m2 at h; omega
 have P12 : Fr noB w w12 := P10.then F112 fun x hx h => by change x = m3 at h; omega
 refine A12.ldV (M12.ld (c := .int .i64) (x := (0 : Int)) (o := 0) rfl (M12.ld (c := .int .i64) (x := (0 : Int)) (o := 1) rfl ⟨k, o, n, ns, ps, rfl, P12, fun w'' F'' => hv w'' ?_⟩))
 have h1 : Fr (fun b => b < w4.heap.size) w5 w9 := H59.mono fun _ _ h => h.elim
 have h2 : Fr (fun b => b < w4.heap.size) w5 w10 := h1.then F10 fun x hx h => by change x = m2 at h; omega
 have h3 : Fr (fun b => b < w4.heap.size) w5 w12 := h2.then F112 fun x hx h => by change x = m3 at h; omega
 exact h3.then F'' fun x hx h => by omega
theorem behind_ok {w : World} {sl : Sl} {l : List Tok} (hn : sl.n = l.length) (hl : l.length ≤ 4097) {n : Nat} (h : n + 1 = l.length) : Calls Tryz.prog 82 #[.slice sl.a sl.n sl.c, .int .i64 (n : Int)] w fun e w' => e = .returned (.agg #[.int .i64 0, .int .i64 0]) ∧ Fr noB w w' := by
 apply c82
 unfold t82 wrZ ivZ ldIZ nwZ ixZ
 refine new_ok fun w1 m2 hm2 hs1 B1 F1 => ?_
 have ew : IntKind.wrap .i64 (((sl.n : Nat) : Int) - 1) = (n : Int) := by rw [wrap_ok (by omega) (by omega)]; omega
 rw [ew]
 refine ite_no (by simp) (B1.st (o := 0) rfl (by simp) fun w2 B2 F2 => B2.st (o := 1) rfl (by simp) fun w3 B3 F3 => B3.ld (c := .int .i64) (x := (0 : Int)) (o := 0) rfl (B3.ld (c := .int .i64) (x := (0 : Int)) (o := 1) rfl ⟨rfl, F1.fill (by omega) (st_fr F2 F3)⟩))
def TxtP (w : World) (q : Shape) (e : Ending) (w' : World) : Prop := ∃ (k : Int) (o n : ByteArray) (ns ps : Sl), e = .returned (.tuple #[shArg k o n ns ps, .agg #[.int .i64 0, .int .i64 0]]) ∧ Fr noB w w' ∧ ∀ w'', Fr (fun b => b < w.heap.size) w' w'' → ShV w'' k o n ns ps q
theorem callTyp_ok {R : Ending → World → Prop} {w : World} {q : Shape} {i : Nat} {f : FuncId} {args : Array Value} (hc : Calls Tryz.prog f args w (TypP w q i)) {K : Int → ByteArray → ByteArray → Sl → Sl → Int → Int → Int → G}
  (h : ∀ k o n ns ps w', Fr noB w w' → (∀ w'', Fr (fun b => b < w.heap.size) w' w'' → ShV w'' k o n ns ps q) → K k o n ns ps (i : Int) 0 0 R w') : callG Tryz.prog f args [.agg [.int .i64, .str, .str, .slice, .slice], .one (.int .i64), .agg [.int .i64, .int .i64]] K R w :=
 call_ok hc fun _ w' ⟨k, o, n, ns, ps, he, F, hv⟩ => ⟨((k, o, n, ns, ps, ()), (((i : Int), ()), ((0, 0, ()), ()))), he, h k o n ns ps w' F hv⟩
theorem tokRow_own {w0 w : World} {sl : Sl} {l : List Tok} (own : w.ownsRow w0.heap.size 124 3 (.slice sl.a sl.n sl.c) l.length (l.flatMap tokCells)) (hl : l.length ≤ 4097) (ht : ∀ t ∈ l, t.text.length < 4611686018427387904) : TokRow w sl l := by
 obtain ⟨a, n, c⟩ := sl
 rcases own.2 with ⟨h1, h2⟩ | ⟨g, cap, cur, h1, h0, hg, h3, h4, h5, h6⟩
 ·cases h1
  have : l = [] := List.eq_nil_of_length_eq_zero h2
  subst this
  exact ⟨rfl, hl, ht, fun k t hk => by simp at hk⟩
 ·cases h1
  have hc := own.cells (g := g) rfl
  refine ⟨rfl, hl, ht, fun k t hk => ⟨⟨g, 0, none⟩, rfl, (Array.getElem?_eq_some_iff.1 hg).1, fun j v hj => ?_⟩⟩
  have hj3 : j < 3 := (List.getElem?_eq_some_iff.1 hj).1
  have := hc (k * 3 + j) v (by rw [flat_at tokCells 3 (fun _ _ => rfl) hk j hj3]; exact hj)
  rw [Addr.add_lit] at this
  simp only [Addr.add_lit, Nat.zero_add] at this ⊢
  exact this
set_option maxHeartbeats 2000000 in
theorem TypeText_ok {w : World} (x : ByteArray) (hg : Glob w) {l : List Tok} (hs : scan (bl x) = .ok l) (hl : l.length ≤ 4097) (htx : ∀ t ∈ l, t.text.length < 4611686018427387904) {q : Shape} {s' : PS} (hW : wholeF l ⟨0, 0, 0⟩ = (q, s')) (he : s'.err = 0) (hat : s'.at' + 1 = l.length) :
  Calls Tryz.prog 49 #[.string x] w (TxtP w q) := by
 apply c49
 unfold t49 ivZ tvZ svZ ldIZ ld5mZ st5Z nwZ nz5Z caZ jn0Z
 refine new_ok fun w1 m1 hm1 hs1 A1 F1 => new_ok fun w2 m2 hm2 hs2 B2 F2 => ?_
 have G2 := F1.tr F2
 have S1 := Scan_ok (w := w2) x (hg.fr G2)
 unfold ScanP at S1
 rw [hs] at S1
 refine callLF_ok (x := 0) (y := 0) (Y := fun sl w' => w'.ownsRow w2.heap.size 124 3 (.slice sl.a sl.n sl.c) l.length (l.flatMap tokCells) ∧ Fr noB w2 w') (S1.mono fun e w' ⟨⟨sl, h1, h2⟩, F⟩ => ⟨sl, h1, h2, F⟩) fun sl w3 ⟨own3, F3⟩ => ?_
 have T3 := tokRow_own own3 hl htx
 refine new_ok fun w4 m6 hm6 hs4 D4 F4 => D4.st (o := 0) rfl (by simp) fun w5 D5 F5 => D5.st (o := 1) rfl (by simp) fun w6 D6 F6 => D6.ld (c := .int .i64) (x := (0 : Int)) (o := 0) rfl (ite_no rfl ?_)
 have G36 : Fr noB w3 w6 := F4.fill (by omega) (st_fr F5 F6)
 have T6 := T3.fr G36
 refine callTyp_ok (Type_ok T6 hW he) fun k o n ns ps w7 F7 hv => ?_
 have G27 := (F3.tr G36).tr F7
 have hz1 := F1.size
 have hz2 := F2.size
 have hz3 := F3.size
 have hz6 := G36.size
 have hz7 := F7.size
 have hm6s := D6.lt
 refine new_ok fun w8 m25 hm25 hs8 E8 F8 => fill_ok E8 rfl rfl rfl rfl rfl rfl fun w9 E9 F9 => ?_
 change Blk w9 m25 _ (shCells k o n ns ps) at E9
 have G79 : Fr noB w7 w9 := F8.fill (by omega) F9
 have D9 := D6.fr (F7.tr G79) (fun h => h)
 refine D9.st (o := 0) rfl (by simp) fun w10 D10 F10 => D10.st (o := 1) rfl (by simp) fun w11 D11 F11 => D11.ld (c := .int .i64) (x := (0 : Int)) (o := 0) rfl ?_
 have F911 := st_fr F10 F11
 refine join0_ok (fun w' => Blk w' m6 66 [.int .i64 0, .int .i64 0] ∧ Fr (oneB m6) w9 w') (fun kj hkj => ite_yes rfl ?_) ?_
 ·refine call_ok (behind_ok (w := w11) T6.n hl hat) ?_
  rintro e w12 ⟨rfl, F12⟩
  refine ⟨((0, 0, ()), ()), rfl, ?_⟩
  have D12 := D11.fr F12 (fun h => h)
  exact D12.st (o := 0) rfl (by simp) fun w13 D13 F13 => D13.st (o := 1) rfl (by simp) fun w14 D14 F14 => hkj _ ⟨D14, (F911.then F12 fun _ _ h => h.elim).then (st_fr F13 F14) fun x _ h => h⟩
 rintro w12 ⟨D12, N12⟩
 refine D12.ld (c := .int .i64) (x := (0 : Int)) (o := 0) rfl (ite_no rfl (drew_ok fun w13 F13 z13 => ?_))
 have N13 : Fr (oneB m6) w9 w13 := N12.then F13 fun _ _ h => h.elim
 have E13 := E9.fr N13 (fun h => by change m25 = m6 at h; omega)
 have D13 := D12.fr F13 (fun h => h)
 have hz9 := G79.size
 have hz13 := N13.size
 have G29 := G27.tr G79
 have A13 := ((A1.fr F2 (fun h => h)).fr G29 (fun h => h)).fr N13 (fun h => by change m1 = m6 at h; omega)
 have B13 := (B2.fr G29 (fun h => h)).fr N13 (fun h => by change m2 = m6 at h; omega)
 refine E13.ldV (D13.ld (c := .int .i64) (x := (0 : Int)) (o := 0) rfl (D13.ld (c := .int .i64) (x := (0 : Int)) (o := 1) rfl (fill_ok A13 rfl rfl rfl rfl rfl rfl fun w14 A14 F14 => ?_)))
 change Blk w14 m1 _ (shCells k o n ns ps) at A14
 have D14 := D13.fr F14 (fun h => by change m6 = m1 at h; omega)
 have B14 := B13.fr F14 (fun h => by change m2 = m1 at h; omega)
 refine keep_cons (D14.held fun j v hj => by rw [Nat.zero_add]; exact hj) (keep_nil (B14.st (o := 0) rfl (by simp) fun w15 B15 F15 => B15.st (o := 1) rfl (by simp) fun w16 B16 F16 => ?_))
 have F1416 := st_fr F15 F16
 have A16 := A14.fr F1416 (fun h => by change m1 = m2 at h; omega)
 have P9 : Fr noB w w9 := G2.tr G29
 have P13 : Fr noB w w13 := P9.then N13 fun x hx h => by change x = m6 at h; omega
 have P14 : Fr noB w w14 := P13.then F14 fun x hx h => by change x = m1 at h; omega
 have P16 : Fr noB w w16 := P14.then F1416 fun x hx h => by change x = m2 at h; omega
 refine A16.ldV (B16.ld (c := .int .i64) (x := (0 : Int)) (o := 0) rfl (B16.ld (c := .int .i64) (x := (0 : Int)) (o := 1) rfl ⟨k, o, n, ns, ps, rfl, P16, fun w'' F'' => hv w'' ?_⟩))
 have h1 : Fr (fun b => b < w6.heap.size) w7 w9 := G79.mono fun _ _ h => h.elim
 have h2 : Fr (fun b => b < w6.heap.size) w7 w13 := h1.then N13 fun x hx h => by change x = m6 at h; omega
 have h3 : Fr (fun b => b < w6.heap.size) w7 w14 := h2.then F14 fun x hx h => by change x = m1 at h; omega
 have h4 : Fr (fun b => b < w6.heap.size) w7 w16 := h3.then F1416 fun x hx h => by change x = m2 at h; omega
 exact h4.then F'' fun x hx h => by omega
end Go.Proofs.YticokfpaoiekgaaGreatDoor
end
