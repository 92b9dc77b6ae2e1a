/- The law behind: one part of its proof (joined by program out of my own texts). No condition. -/
import Derived.Test.YticokfpaoiekgaaGreatDoorFdrBK
section
namespace Go.Shp
open Go.Lex
def cntF (H : List Hit) (r : Nat) : Int := ((cntR H (r : Int) : Nat) : Int)
theorem cnt_next {t : Shape} {d : B} {A : List Hit} {L : List Thing} {j : Nat} {it : Thing} (hj : L[j]? = some it) {r : Nat} (hr : 1 ≤ r) : cntF (A ++ dHits (typeQ t) d (L.take (j + 1))) r = cntF (A ++ dHits (typeQ t) d (L.take j)) r + (if it.kind = 3 ∧ rank it.shape t = r then 1 else 0) := by
 have htk : L.take (j + 1) = L.take j ++ [it] := by rw [List.take_add_one, hj]; rfl
 unfold cntF
 rw [htk, dHits_snoc, ← List.append_assoc, cnt_step _ _ _ _ (by omega)]
 by_cases h : it.kind = 3 ∧ rank it.shape t = r
 ·rw [if_pos ⟨h.1, by rw [h.2]⟩, if_pos h]
  omega
 ·rw [if_neg (fun e => h ⟨e.1, by have := e.2; omega⟩), if_neg h]
  omega
theorem cnt_take {H : List Hit} {i : Nat} {h : Hit} (hi : H[i]? = some h) (r : Nat) : cntF (H.take (i + 1)) r = cntF (H.take i) r + (if h.rank = (r : Int) then 1 else 0) := by
 have htk : H.take (i + 1) = H.take i ++ [h] := by rw [List.take_add_one, hi]; rfl
 unfold cntF
 rw [htk, cntR_append]
 by_cases e : h.rank = (r : Int)
 ·rw [if_pos e]
  have : cntR [h] (r : Int) = 1 := by simp [cntR, e]
  omega
 ·rw [if_neg e]
  have : cntR [h] (r : Int) = 0 := by simp [cntR, e]
  omega
theorem cnt_rest (H : List Hit) (m r : Nat) : cntF H r - cntF ((sortH H).take m) r = cntF ((sortH H).drop m) r := by
 have h1 : cntR H r = cntR (sortH H) r := ((sortH_perm H).countP_eq _).symm
 have h2 : cntR (sortH H) r = cntR ((sortH H).take m) r + cntR ((sortH H).drop m) r := by rw [← cntR_append, List.take_append_drop]
 unfold cntF
 omega
theorem cnt_pos {H : List Hit} {r : Nat} (h : cntF H r > 0) : ∃ (j : Nat) (y : Hit), H[j]? = some y ∧ y.rank = (r : Int) := by
 unfold cntF cntR at h
 obtain ⟨y, hy, e⟩ := List.countP_pos_iff.1 (by omega : 0 < H.countP fun h => h.rank == (r : Int))
 obtain ⟨j, hj⟩ := List.mem_iff_getElem?.1 hy
 exact ⟨j, y, hj, by simpa using e⟩
theorem cntF_le (H : List Hit) (r : Nat) : 0 ≤ cntF H r ∧ cntF H r ≤ (H.length : Int) := by
 have := cntR_le H (r : Int)
 unfold cntF
 omega
end Go.Shp
namespace Go.Lift
theorem Cnts.congr {w : World} {m : Nat} {C C' : Nat → Int} (h : Cnts w m C) (e : ∀ r, 1 ≤ r → r ≤ 3 → C r = C' r) : Cnts w m C' := by
 obtain ⟨cs, B, h1, h2⟩ := h
 exact ⟨cs, B, h1, fun r a b => by rw [← e r a b]; exact h2 r a b⟩
end Go.Lift
namespace Go.Proofs.YticokfpaoiekgaaGreatDoor
open Go.Lift Go.Lex Go.Shp
section
variable {w : World} {s : Sl} {D : List Dep} {k2 : Int} {o2 n2 : ByteArray} {ns2 ps2 : Sl} {t : Shape}
set_option maxHeartbeats 8000000 in
theorem FinderSound_ok (hg : Glob w) (ht : ShV w k2 o2 n2 ns2 ps2 t) (n : Int) (hD : DpR w s D) : AnsB 6 #[shArg k2 o2 n2 ns2 ps2, .int .i64 n, .slice s.a s.n s.c] w true := by
 have hsn := hD.1
 have hsl := hD.2.1
 apply c6
 unfold t6 wrZ ivZ tvZ svZ shZ ldIZ ldLZ ld5mZ lf5mZ ld7xZ ld3xZ st7Z nwZ nw5Z nz7Z caBZ caIZ caLZ jn0Z jnBZ lpIZ ixZ
 refine new_ok fun w1 m7 hm7 hs1 B1 F1 => ?_
 change Blk w1 m7 _ (shCells k2 o2 n2 ns2 ps2) at B1
 refine join1_ok (c := .bool) (fun (x : Bool) w' => Fr noB w1 w' ∧ (x = false → Few D ∧ 0 ≤ n)) (fun kj hkj => ?_) fun x w2 ⟨F2, hx⟩ => ?_
 ·refine call_ok (smallD_ok (hD.fr F1)) ?_
  rintro e w3 ⟨q, rfl, F3, hq⟩
  refine ⟨((q, ()), ()), rfl, ite_ok (fun h => hkj _ _ ⟨F3, fun h => by cases h⟩) fun h => hkj _ _ ⟨F3, fun h0 => ⟨hq (by simpa using h), ?_⟩⟩⟩
  have h0 : ¬ n < 0 := of_decide_eq_false h0
  omega
 have G2 := F1.tr F2
 refine ite_ok (fun _ => callB_ok (awake_ok (hg.fr G2)) fun w4 F4 => ⟨rfl, G2.tr F4⟩) fun hx0 => ?_
 obtain ⟨hfew, hn0⟩ := hx hx0
 obtain ⟨m, rfl⟩ : ∃ m : Nat, n = (m : Int) := ⟨n.toNat, by omega⟩
 have hN : itemsN D ≤ 1000000 := by have := hfew.1; omega
 have B2 := B1.fr F2 (fun h => h)
 refine B2.ldV (callHits_ok (ByType_ok (hD.fr G2) hN (ht.fr G2) (m : Int)) fun l V w3 hV hn hS F3 => ?_)
 rw [Int.toNat_natCast] at hV
 have hHl := hitsOf_len (typeQ t) D
 have hSl : (sortH (hitsOf (typeQ t) D)).length = (hitsOf (typeQ t) D).length := (sortH_perm _).length_eq
 have hVl := hvs_len V
 rw [hV, List.length_take] at hVl
 have hn1 := hn.1
 have hfew1 := hfew.1
 have G3 := G2.tr F3
 have B3 := B2.fr F3 (fun h => h)
 refine ite_no (decide_eq_false (by omega)) (new_ok fun w4 m18 hm18 hs4 C4 F4 => ?_)
 have hC4 : Cnts w4 m18 (fun _ => 0) := ⟨[0, 0, 0, 0], C4, rfl, fun r h1 h3 => match r, h1, h3 with | 1, _, _ => rfl | 2, _, _ => rfl | 3, _, _ => rfl⟩
 have bumpF : ∀ {wa wb : World}, Fr noB w3 wa → Fr (oneB m18) wa wb → Fr noB w3 wb := fun Fa Fb => Fa.then Fb fun x hx e => by
  unfold oneB at e
  omega
 refine join0_ok (fun w' => Fr noB w3 w' ∧ Cnts w' m18 (cntF (hitsOf (typeQ t) D))) (fun k19 hk19 => ?_) fun w5 ⟨F5, hC5⟩ => ?_
 ·refine countL_ok D.length (by omega) (fun i w' => Fr noB w3 w' ∧ Cnts w' m18 (cntF (hitsOf (typeQ t) (D.take i)))) (fun rec i w5 hi hI hrec => ?_) ⟨F4, hC4.congr fun r _ _ => rfl⟩
  obtain ⟨F5, hC5⟩ := hI
  refine ite_ok (fun hlt => ?_) fun hge => hk19 _ ⟨F5, ?_⟩
  rotate_left
  ·have hge : ¬ (i : Int) < ((s.n : Nat) : Int) := of_decide_eq_false hge
   rwa [List.take_of_length_le (l := D) (by omega)] at hC5
  have hlt : (i : Int) < ((s.n : Nat) : Int) := of_decide_eq_true hlt
  obtain ⟨d, hd⟩ : ∃ d, D[i]? = some d := ⟨_, List.getElem?_eq_getElem (by omega)⟩
  have hdl : d.items.length < 4611686018427387904 := by
   obtain ⟨_, _, _, _, _, _, _, h⟩ := hD.2.2 i d hd
   exact h.2.2.2.1
  refine join0_ok (fun w' => Fr noB w3 w' ∧ Cnts w' m18 (cntF (hitsOf (typeQ t) (D.take (i + 1))))) (fun k22 hk22 => ?_) fun w' h => hrec (by omega) w' h
  refine join0_ok (fun w' => Fr noB w3 w' ∧ Cnts w' m18 (cntF (hitsOf (typeQ t) (D.take (i + 1))))) (fun k23 hk23 => ?_) fun w' h => hk22 w' h
  refine countL_ok d.items.length (by omega) (fun k w' => Fr noB w3 w' ∧ Cnts w' m18 (cntF (hitsOf (typeQ t) (D.take i) ++ dHits (typeQ t) d.name (d.items.take k)))) (fun rec2 k w6 hk hI2 hrec2 => ?_) ⟨F5, by simpa [dHits] using hC5⟩
  obtain ⟨F6, hC6⟩ := hI2
  have G6 := G3.tr F6
  refine dep_its (hD.fr G6) hd fun its hin hil hL => ?_
  refine ite_ok (fun hlt2 => ?_) fun hge2 => hk23 _ ⟨F6, ?_⟩
  rotate_left
  ·have hge2 : ¬ (k : Int) < ((its.n : Nat) : Int) := of_decide_eq_false hge2
   rwa [List.take_of_length_le (l := d.items) (by omega), hits_next hd] at hC6
  have hlt2 : (k : Int) < ((its.n : Nat) : Int) := of_decide_eq_true hlt2
  obtain ⟨it, hit⟩ : ∃ it, d.items[k]? = some it := ⟨_, List.getElem?_eq_getElem (by omega)⟩
  refine join0_ok (fun w' => Fr noB w3 w' ∧ Cnts w' m18 (cntF (hitsOf (typeQ t) (D.take i) ++ dHits (typeQ t) d.name (d.items.take (k + 1))))) (fun k28 hk28 => ?_) fun w' h => hrec2 (by omega) w' h
  refine dep_its (hD.fr G6) hd fun its2 hin2 hil2 hL2 => item_ld hL2 hit hin2 fun kd nm k' o n' ns ps hiv => new_ok fun w7 m39 hm39 hs7 C7 F7 => fill7_ok C7 rfl rfl rfl rfl rfl rfl rfl rfl fun w8 C8 F8 => ?_
  have K8 : Fr noB w6 w8 := F7.fill (by omega) F8
  change Blk w8 m39 _ (itCells kd nm k' o n' ns ps) at C8
  have hC8 := hC6.fr K8 (fun h => h)
  have G8 := G6.tr K8
  have H8 := F6.tr K8
  refine C8.ld (c := .int .i64) (x := kd) (o := 0) rfl ?_
  refine join0_ok (fun w' => Fr noB w3 w' ∧ Cnts w' m18 (cntF (hitsOf (typeQ t) (D.take i) ++ dHits (typeQ t) d.name (d.items.take (k + 1))))) (fun k41 hk41 => ?_) fun w' h => hk28 w' h
  refine ite_ok (fun q3 => ?_) fun q3 => hk41 _ ⟨H8, hC8.congr fun r h1 h3 => ?_⟩
  rotate_left
  ·have q3 : kd ≠ 3 := by simpa using q3
   rw [cnt_next hit h1, if_neg (fun e => q3 (by rw [hiv.1]; exact e.1))]
   omega
  have q3 : kd = 3 := by simpa using q3
  have B8 := B3.fr H8 (fun h => h)
  refine C8.ldI (B8.ldV (callI_ok (Rank_ok (hiv.2.2.2.fr K8) (ht.fr G8)) fun w9 F9 => ?_))
  refine bump_ok (hC8.fr F9 (fun h => h)) (rank_le3 it.shape t) (fun n => IntKind.wrap .i64 (n + 1)) fun w10 hC10 F10 => hk41 _ ⟨bumpF (H8.tr F9) F10, hC10.congr fun r h1 h3 => ?_⟩
  rw [cnt_next hit h1]
  have hle := cntF_le (hitsOf (typeQ t) (D.take i) ++ dHits (typeQ t) d.name (d.items.take k)) r
  have hle2 := hits_le (q := typeQ t) hd k
  by_cases hr : r = rank it.shape t
  ·rw [if_pos hr, if_pos ⟨by rw [← hiv.1]; exact q3, hr.symm⟩, wrap_ok (by omega) (by omega)]
  ·rw [if_neg hr, if_neg (fun e => hr e.2.symm)]
   omega
 refine join0_ok (fun w' => Fr noB w3 w' ∧ Cnts w' m18 (fun r => cntF (hitsOf (typeQ t) D) r - cntF (hvs V) r)) (fun k56 hk56 => ?_) fun w6 ⟨F6, hC6⟩ => ?_
 ·refine countL_ok V.length (by omega) (fun i w' => Fr noB w3 w' ∧ Cnts w' m18 (fun r => cntF (hitsOf (typeQ t) D) r - cntF ((hvs V).take i) r)) (fun rec i w6 hi hI hrec => ?_) ⟨F5, hC5.congr fun r _ _ => by simp [cntF, cntR]⟩
  obtain ⟨F6, hC6⟩ := hI
  have S6 := hS.fr F6
  refine ite_ok (fun hlt => ?_) fun hge => hk56 _ ⟨F6, ?_⟩
  rotate_left
  ·have hge : ¬ (i : Int) < ((l.n : Nat) : Int) := of_decide_eq_false hge
   rwa [List.take_of_length_le (l := hvs V) (by rw [hvs_len]; omega)] at hC6
  have hlt : (i : Int) < ((l.n : Nat) : Int) := of_decide_eq_true hlt
  obtain ⟨v, hv⟩ : ∃ v, V[i]? = some v := ⟨_, List.getElem?_eq_getElem (by omega)⟩
  have hvi : (hvs V)[i]? = some (hvHit v) := by rw [hvs, List.getElem?_map, hv]; rfl
  have hvH : hvHit v ∈ hitsOf (typeQ t) D := by
   have := List.mem_of_getElem? hvi
   rw [hV] at this
   exact (sortH_perm _).mem_iff.1 (List.mem_of_mem_take this)
  obtain ⟨⟨r1, r3⟩, i0, k0, d0, it0, a1, a2, a3, a4, a5, a6⟩ := type_hit hvH
  change 1 ≤ v.2.2 at r1
  change v.2.2 ≤ 3 at r3
  change bl v.1 = d0.name at a3
  change bl v.2.1 = it0.name at a4
  change ((rank it0.shape t : Nat) : Int) = v.2.2 at a6
  refine join0_ok (fun w' => Fr noB w3 w' ∧ Cnts w' m18 (fun r => cntF (hitsOf (typeQ t) D) r - cntF ((hvs V).take (i + 1)) r)) (fun k59 hk59 => ?_) fun w' h => hrec (by omega) w' h
  refine join1_ok (c := .bool) (fun (b : Bool) w' => b = false ∧ Fr noB w6 w') (fun k60 hk60 => drew_ok fun w7 F7 z7 => ?_) fun b w7 ⟨hb, F7⟩ => ?_
  ·have S7 := S6.fr F7
   have H7 := F6.tr F7
   have G7 := G3.tr H7
   have B7 := B3.fr H7 (fun h => h)
   have hst := stands_ok (hD.fr G7) (ht.fr G7) a1 a2 a3 a4 a5 a6
   refine srcRank_ld S7 hn1 hv fun a61 f61 => ite_no (decide_eq_false (by omega)) (srcRank_ld S7 hn1 hv fun a63 f63 => ite_no (decide_eq_false (by omega)) (ite_ok (fun hpos => ?_) fun hpos => ?_))
   ·have hpos : (i : Int) > 0 := of_decide_eq_true hpos
    obtain ⟨j, rfl⟩ : ∃ j, i = j + 1 := ⟨i - 1, by omega⟩
    have ew : IntKind.wrap .i64 (((j + 1 : Nat) : Int) - 1) = ((j : Nat) : Int) := by rw [wrap_ok (by omega) (by omega)]; omega
    obtain ⟨u, hu⟩ : ∃ u, V[j]? = some u := ⟨_, List.getElem?_eq_getElem (by omega)⟩
    have hui : (hvs V)[j]? = some (hvHit u) := by rw [hvs, List.getElem?_map, hu]; rfl
    have hdn : Down (hvs V) := by
     rw [hV]
     exact List.Pairwise.sublist (List.take_sublist ..) (sortH_down _)
    have hge : v.2.2 ≤ u.2.2 := down_rank hdn (Nat.lt_succ_self j) hui hvi
    rw [ew]
    exact srcRank_ld S7 hn1 hu fun a65 f65 => srcRank_ld S7 hn1 hv fun a67 f67 => ite_no (decide_eq_false (by omega)) (srcHit_ld S7 hn1 hv (B7.ldV (callB_ok hst fun w8 F8 => keep_cons (f67 w8 F8) (keep_cons (f65 w8 F8) (keep_cons (f63 w8 F8) (keep_cons (f61 w8 F8) (keep_nil (hk60 _ _ ⟨rfl, F7.tr F8⟩))))))))
   ·exact srcHit_ld S7 hn1 hv (B7.ldV (callB_ok hst fun w8 F8 => keep_cons (f63 w8 F8) (keep_cons (f61 w8 F8) (keep_nil (hk60 _ _ ⟨rfl, F7.tr F8⟩)))))
  refine ite_no hb (srcRank_ld (S6.fr F7) hn1 hv fun a90 _ => ?_)
  obtain ⟨r0, hr0⟩ : ∃ r : Nat, v.2.2 = (r : Int) := ⟨v.2.2.toNat, by omega⟩
  rw [hr0]
  refine bump_ok (hC6.fr F7 (fun h => h)) (by omega) (fun n => IntKind.wrap .i64 (n - 1)) fun w8 hC8 F8 => hk59 _ ⟨bumpF (F6.tr F7) F8, hC8.congr fun x h1 h3 => ?_⟩
  rw [cnt_take hvi]
  change (if x = r0 then _ else _) = cntF (hitsOf (typeQ t) D) x - (cntF ((hvs V).take i) x + (if v.2.2 = (x : Int) then 1 else 0))
  have q1 := cntF_le (hitsOf (typeQ t) D) x
  have q2 := cntF_le ((hvs V).take i) x
  have q3 : ((hvs V).take i).length ≤ V.length := by rw [List.length_take, hvs_len]; omega
  by_cases hr : x = r0
  ·rw [if_pos hr, if_pos (by omega)]
   show IntKind.wrap .i64 (cntF (hitsOf (typeQ t) D) x - cntF ((hvs V).take i) x - 1) = _
   rw [wrap_ok (by omega) (by omega)]
   omega
  ·rw [if_neg hr, if_neg (by omega)]
   omega
 refine join0_ok (fun w' => Fr noB w3 w') (fun k95 hk95 => ?_) fun w7 F7 => callB_ok (awake_ok (hg.fr (G3.tr F7))) fun w8 F8 => ⟨rfl, (G3.tr F7).tr F8⟩
 refine loop1_ok (c := .int .i64) (fun (i : Int) w' => ∃ k : Nat, i = (k : Int) ∧ 1 ≤ k ∧ k ≤ 4 ∧ Fr noB w3 w' ∧ Cnts w' m18 (fun r => cntF (hitsOf (typeQ t) D) r - cntF (hvs V) r)) (fun (i : Int) => 4 - i.toNat) (fun rec i w7 hI hrec => ?_) ⟨1, rfl, by omega, by omega, F6, hC6⟩
 obtain ⟨k, rfl, h1, h4, F7, hC7⟩ := hI
 refine ite_ok (fun hle => ?_) fun _ => hk95 _ F7
 have hle : (k : Int) ≤ 3 := of_decide_eq_true hle
 refine join0_ok (fun w' => w' = w7) (fun k98 hk98 => ?_) fun w' hw => ?_
 rotate_left
 ·subst hw
  have e : IntKind.wrap .i64 ((k : Int) + 1) = ((k + 1 : Nat) : Int) := by rw [wrap_ok (by omega) (by omega)]; omega
  rw [e]
  exact hrec _ _ ⟨k + 1, rfl, by omega, by omega, F7, hC7⟩ (by simp only [Int.toNat_natCast]; omega)
 refine join1_ok (c := .bool) (fun (b : Bool) w' => b = false ∧ w' = w7) (fun k99 hk99 => ?_) fun b w' ⟨hb, hw⟩ => ite_no hb (hk98 _ hw)
 have hrest := cnt_rest (hitsOf (typeQ t) D) m k
 rw [← hV] at hrest
 have hge0 := cntF_le ((sortH (hitsOf (typeQ t) D)).drop m) k
 refine cnt_ld hC7 h1 (by omega) (ite_no (decide_eq_false (by omega)) (cnt_ld hC7 h1 (by omega) (ite_ok (fun hpos => ?_) fun _ => hk99 _ _ ⟨rfl, rfl⟩)))
 have hpos : cntF (hitsOf (typeQ t) D) k - cntF (hvs V) k > 0 := of_decide_eq_true hpos
 rw [hrest] at hpos
 obtain ⟨j, y, hy, hyr⟩ := cnt_pos hpos
 rw [List.getElem?_drop] at hy
 have hjl := (List.getElem?_eq_some_iff.1 hy).1
 refine ite_no (decide_eq_false (by omega)) (ite_ok (fun h0 => ?_) fun _ => hk99 _ _ ⟨rfl, rfl⟩)
 have h0 : ((l.n : Nat) : Int) > 0 := of_decide_eq_true h0
 obtain ⟨u, hu⟩ : ∃ u, V[l.n - 1]? = some u := ⟨_, List.getElem?_eq_getElem (by omega)⟩
 have ew : IntKind.wrap .i64 (((l.n : Nat) : Int) - 1) = ((l.n - 1 : Nat) : Int) := by rw [wrap_ok (by omega) (by omega)]; omega
 rw [ew]
 refine srcRank_ld (hS.fr F7) hn1 hu fun a104 _ => hk99 _ _ ⟨decide_eq_false ?_, rfl⟩
 have hui : (hvs V)[l.n - 1]? = some (hvHit u) := by rw [hvs, List.getElem?_map, hu]; rfl
 rw [hV, List.getElem?_take, if_pos (by omega)] at hui
 have := down_rank (sortH_down _) (by omega : l.n - 1 < m + j) hui hy
 rw [hyr] at this
 change ((k : Nat) : Int) ≤ u.2.2 at this
 omega
end
end Go.Proofs.YticokfpaoiekgaaGreatDoor
end
section
namespace Go.Proofs.YticokfpaoiekgaaGreatDoor
open Go.Lift Go.Lex Go.Shp
section
variable {s s' s3 : Shape} {w : World} {k : Int} {o n : ByteArray} {ns ps : Sl} {k2 : Int} {o2 n2 : ByteArray} {ns2 ps2 : Sl} {k3 : Int} {o3 n3 : ByteArray} {ns3 ps3 : Sl}
theorem Below_ok (hv : ShV w k o n ns ps s) (hv2 : ShV w k2 o2 n2 ns2 ps2 s') : AnsB 19 #[shArg k o n ns ps, shArg k2 o2 n2 ns2 ps2] w (isBelow s s') := sBelow_ok checkC sbelow_ok hv hv2
set_option maxHeartbeats 2000000 in
theorem FinderWeaker_ok (hg : Glob w) (hv : ShV w k o n ns ps s) (hv2 : ShV w k2 o2 n2 ns2 ps2 s') (hv3 : ShV w k3 o3 n3 ns3 ps3 s3) : AnsB 8 #[shArg k o n ns ps, shArg k2 o2 n2 ns2 ps2, shArg k3 o3 n3 ns3 ps3] w true := by
 apply c8
 unfold t8 shZ kfZ ld5mZ nw5Z caBZ caIZ jnBZ
 refine new_ok fun w1 m15 hm15 hs1 A1 F1 => new_ok fun w2 m16 hm16 hs2 B2 F2 => new_ok fun w3 m17 hm17 hs3 C3 F3 => ?_
 have A3 := A1.fr (F2.tr F3) (fun h => h)
 have B3 := B2.fr F3 (fun h => h)
 change Blk w3 m15 _ (shCells k o n ns ps) at A3
 change Blk w3 m16 _ (shCells k2 o2 n2 ns2 ps2) at B3
 change Blk w3 m17 _ (shCells k3 o3 n3 ns3 ps3) at C3
 have G3 := (F1.tr F2).tr F3
 have fA : ∀ w', Fr noB w3 w' → Held w' (⟨m15, 0, none⟩, [.int .i64 k, .string o, .string n, .slice ns.a ns.n ns.c, .slice ps.a ps.n ps.c]) := fun w' F => (A3.fr F (fun h => h)).heldV
 have fC : ∀ w', Fr noB w3 w' → Held w' (⟨m17, 0, none⟩, [.int .i64 k3, .string o3, .string n3, .slice ns3.a ns3.n ns3.c, .slice ps3.a ps3.n ps3.c]) := fun w' F => (C3.fr F (fun h => h)).heldV
 refine B3.ldV (C3.ldV (callB_ok (Below_ok (hv2.fr G3) (hv3.fr G3)) fun w4 F4 => ite_ok (fun hb => callB_ok (awake_ok (hg.fr (G3.tr F4))) fun w5 F5 => ⟨rfl, (G3.tr F4).tr F5⟩) fun hb => drew_ok fun w5 F5 z5 => ?_))
 have hbe : isBelow s' s3 = true := by simpa using hb
 obtain ⟨hw2, hw1⟩ := rank_weaker (x := s) hbe
 have H5 := F4.tr F5
 have G5 := G3.tr H5
 have A5 := A3.fr H5 (fun h => h)
 have B5 := B3.fr H5 (fun h => h)
 have C5 := C3.fr H5 (fun h => h)
 refine A5.ldV (B5.ldV (A5.ldV (C5.ldV (callI_ok (Rank_ok (hv.fr G5) (hv2.fr G5)) fun w6 F6 => ?_))))
 have H6 := H5.tr F6
 have G6 := G5.tr F6
 refine Stay.go (w := w3) (by repeat (first | exact Stay.nil | refine Stay.cons (by assumption) ?_)) H6 (callI_ok (Rank_ok (hv.fr G6) (hv3.fr G6)) fun w7 F7 => ?_)
 have H7 := H6.tr F7
 have G7 := G6.tr F7
 refine join1_ok (c := .bool) (fun (b : Bool) w' => b = false ∧ w' = w7) (fun kj hkj => ?_) ?_
 ·refine ite_ok (fun h2 => ite_ok (fun h3 => ?_) fun h3 => ite_ok (fun h4 => hkj _ _ ⟨?_, rfl⟩) fun h4 => hkj _ _ ⟨rfl, rfl⟩) fun h2 => ite_ok (fun h4 => hkj _ _ ⟨?_, rfl⟩) fun h4 => hkj _ _ ⟨rfl, rfl⟩
  ·have h2 : ((rank s s' : Nat) : Int) ≥ 2 := of_decide_eq_true h2
   have h3 : ((rank s s3 : Nat) : Int) < 2 := of_decide_eq_true h3
   have := hw2 (by omega)
   omega
  ·have h4 : ((rank s s' : Nat) : Int) ≥ 1 := of_decide_eq_true h4
   have := hw1 (by omega)
   exact decide_eq_false (by omega)
  ·have h4 : ((rank s s' : Nat) : Int) ≥ 1 := of_decide_eq_true h4
   have := hw1 (by omega)
   exact decide_eq_false (by omega)
 rintro b w8 ⟨rfl, rfl⟩
 refine ite_no rfl ?_
 have A7 := A3.fr H7 (fun h => h)
 have B7 := B3.fr H7 (fun h => h)
 refine join1_ok (c := .bool) (fun (b : Bool) w' => b = true ∧ Fr noB w w') (fun kj hkj => ?_) fun b w' ⟨hb, F⟩ => ⟨by rw [hb], F⟩
 have wake : ∀ {w9 : World}, Fr noB w w9 → callG Tryz.prog 11 #[] [.one .bool] (fun (b : Bool) => kj b) (fun e w' => e = .returned (.bool true) ∧ Fr noB w w') w9 := fun F9 => callB_ok (awake_ok (hg.fr F9)) fun w10 F10 => hkj _ _ ⟨rfl, F9.tr F10⟩
 refine A7.ldV (callB_ok (Plain_ok (hv.fr G7)) fun w9 F9 => ite_ok (fun h => wake (G7.tr F9)) fun h => (B7.fr F9 (fun h => h)).ldV (callB_ok (Plain_ok (hv2.fr (G7.tr F9))) fun w10 F10 => ite_ok (fun h2 => wake ((G7.tr F9).tr F10)) fun h2 => ite_ok (fun h3 => wake ((G7.tr F9).tr F10)) fun h3 => ?_))
 exfalso
 have h : (check s == 0 && plainS s) = true := by simpa using h
 have h2 : (check s' == 0 && plainS s') = true := by simpa using h2
 rw [Bool.and_eq_true, beq_iff_eq] at h h2
 have h3 : ((rank s s' : Nat) : Int) = 1 := by simpa using h3
 exact rank_plain h h2 (by omega)
end
end Go.Proofs.YticokfpaoiekgaaGreatDoor
end
