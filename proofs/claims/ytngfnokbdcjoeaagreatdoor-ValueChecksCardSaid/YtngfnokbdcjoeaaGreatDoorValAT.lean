/- The law behind: one part of its proof (joined by program out of my own texts). No condition. -/
import Derived.Test.YtngfnokbdcjoeaaGreatDoorValAS
section
namespace Go.Proofs.YtngfnokbdcjoeaaGreatDoor
open Go.Lift Go.Lex Go.Shp
structure TInv (w : World) (m5 m6 m10 : Nat) (k z : Int) (o n : ByteArray) (ns ps : Sl) (names : List B) (parts : List Shape) (lN lP : Sl) (N : List B) (V : List WV) (Q : List Shape) (i : Nat) (wi : World) : Prop where
 b5 : Blk wi m5 25 (vaCells k z o n ns ps)
 b6 : ∃ l, Blk wi m6 25 l ∧ l.length = 6
 b10 : Blk wi m10 25 (vaCells k z o n lN lP)
 fr : Fr noB w wi
 nil : names = [] → lN.a = none
 ownN : wi.ownsRow 0 9 1 (.slice lN.a lN.n lN.c) N.length (N.map fun x => .string (bs x))
 ownP : wi.ownsRow 0 25 6 (.slice lP.a lP.n lP.c) V.length (V.flatMap wvCells)
 belN : ∀ a, lN.a = some a → m10 < a.block ∧ a.block < wi.heap.size
 belP : ∀ a, lP.a = some a → m10 < a.block ∧ a.block < wi.heap.size
 sp : SV wi (fun b => b ≤ m10 ∨ (∃ a, lN.a = some a ∧ a.block = b) ∨ (∃ a, lP.a = some a ∧ a.block = b)) V Q
 st : SoFar names parts i N Q
 lenN : names ≠ [] → N.length = i
 lenQ : Q.length = i
set_option maxHeartbeats 4000000 in
theorem vsorted_go : ∀ (d : Nat) (s : Shape), size s ≤ d → size s ≤ 2000 → formed s = true → ∀ {w : World} {k z : Int} {o n : ByteArray} {ns ps : Sl}, VaV w k z o n ns ps s → Calls Tryz.prog 31 #[vaArg k z o n ns ps] w (SortV w (sortS s))
 | 0, s, h, _, _, _, _, _, _, _, _, _, _ => by have := size_pos s; omega
 | d + 1, .mk kA oA nA nsA psA, hd, hd2, hfit, w, k, z, o, n, ns, ps, hv => by
  rw [size_mk] at hd hd2
  obtain ⟨fa, hfa⟩ := formed_parts hfit
  obtain ⟨ek, eo, en, ⟨hz, hns, hnl, hpn, hpl, hos, hnz, hxl⟩, hps⟩ := hv.parts
  change kA = vk k z at ek
  change bl o = oA at eo
  change bl n = nA at en
  change RdS w ns (nsA.map bs) at hns
  change nsA.length * 16 ≤ 140737488351232 at hnl
  change ps.n = psA.length at hpn
  change psA.length < 4611686018427387904 at hpl
  change ∀ x ∈ nsA, x.length < 4611686018427387904 at hxl
  change VaL w ps.a 0 psA at hps
  have hnn := hns.1
  rw [List.length_map] at hnn
  have hplen : psA.length ≤ 2000 := by have := sizes_len psA; omega
  obtain ⟨iS, zS, hiS, hzS, s1, s2, s3⟩ := infoStr
  obtain ⟨iP, zP, hiP, hzP, p1, p2, p3⟩ := infoVal
  apply c31
  unfold t31 wrZ tvZ svZ ldSZ ldLZ ld6mZ ld6xZ vaZ kf6Z st6Z nw6Z nz6Z ca6Z nwZ jn0Z jnBZ jnIZ lpIZ ixZ
  refine new_ok fun w1 m5 hm5 hs1 B1 F1 => new_ok fun w2 m6 hm6 hs2 C2 F2 => ?_
  have B2 := B1.fr F2 (fun h => h)
  change Blk w2 m5 _ (vaCells k z o n ns ps) at B2
  clear B1
  refine B2.ldW (new_ok fun w3 m10 hm10 hs3 D3 F3 => fill6_ok D3 rfl rfl rfl rfl rfl rfl rfl fun w3b D3b F3b => D3b.st (o := 4) rfl (by simp) fun w3c D3c F3c => D3c.st (o := 5) rfl (by simp) fun w4 D4 F4x => ?_)
  change Blk w4 m10 _ (vaCells k z o n ⟨none, 0, 0⟩ ⟨none, 0, 0⟩) at D4
  have F4 : Fr (oneB m10) w3 w4 := st_fr (st_fr F3b F3c) F4x
  have G4 : Fr noB w w4 := ((F1.tr F2).tr F3).fill (by omega) F4
  have G24 : Fr noB w2 w4 := F3.fill (by omega) F4
  have B4 := B2.fr G24 (fun h => h)
  have C4 := C2.fr G24 (fun h => h)
  refine join0_ok (fun w' => ∃ lN lP N V Q, TInv w m5 m6 m10 k z o n ns ps nsA psA lN lP N V Q psA.length w') (fun kend hkend => ?_) ?_
  ·refine countL_ok psA.length (by omega) (fun i w' => ∃ lN lP N V Q, TInv w m5 m6 m10 k z o n ns ps nsA psA lN lP N V Q i w') (fun rec i wi hi hI hrec => ?_) ⟨⟨none, 0, 0⟩, ⟨none, 0, 0⟩, [], [], [], B4, ⟨_, C4, rfl⟩, D4, G4, fun _ => rfl, ⟨rfl, .inl ⟨rfl, rfl⟩⟩, ⟨rfl, .inl ⟨rfl, rfl⟩⟩, fun a ha => (by cases ha), fun a ha => (by cases ha), ⟨rfl, fun j v q hj => (by simp at hj)⟩, ?_, fun _ => rfl, rfl⟩
   ·obtain ⟨lN, lP, N, V, Q, I⟩ := hI
    refine I.b5.ldS (o := 5) rfl (ite_ok (fun hlt => ?_) fun hge => hkend _ ?_)
    ·have hlt : (i : Int) < (ps.n : Int) := of_decide_eq_true hlt
     obtain ⟨x, hx⟩ : ∃ x, psA[i]? = some x := ⟨_, List.getElem?_eq_getElem (by omega)⟩
     have hxm := List.mem_of_getElem? hx
     have hsz := size_mem hxm
     refine join_in (vs := []) (I.b5.ldS (o := 5) rfl (vpart_ld (hps.fr I.fr) hx hpn fun k1 z1 o1 n1 ns1 ps1 hv1 => ?_))
     refine callSortV_ok (vsorted_go d x (by omega) (by omega) (hfa x hxm) hv1) fun k2 z2 o2 n2 ns2 ps2 w5 F5 hst => ?_
     refine new_ok fun w6 m28 hm28 hs6 M6 F6 => fill6_ok M6 rfl rfl rfl rfl rfl rfl rfl fun w7 M7 F7 => ?_
     change Blk w7 m28 _ (vaCells k2 z2 o2 n2 ns2 ps2) at M7
     have H7 : Fr noB wi w7 := (F5.tr F6).fill (by have := F5.size; omega) F7
     have J7 : Fr noB w5 w7 := F6.fill (by omega) F7
     have B7 := I.b5.fr H7 (fun h => h)
     have D7 := I.b10.fr H7 (fun h => h)
     have ownN7 := own_fr0 I.ownN H7
     have ownP7 := own_fr0 I.ownP H7
     have h10 := I.b10.lt
     have hm28i : wi.heap.size ≤ m28 := by have := F5.size; omega
     have h528 : w5.heap.size ≤ m28 := by omega
     have hmV : V.length = i := by rw [I.sp.1, I.lenQ]
     -- what the next round needs
     have next : ∀ (lN' lP' : Sl) (N' : List B) (a : Nat) (w8 : World), a ≤ V.length → Blk w8 m10 25 (vaCells k z o n lN' lP') →
       Fr (fun b => b = m10 ∨ ∃ c, lP.a = some c ∧ c.block = b) w7 w8 → (nsA = [] → lN'.a = none) → w8.ownsRow 0 9 1 (.slice lN'.a lN'.n lN'.c) N'.length (N'.map fun x => .string (bs x)) →
       w8.ownsRow 0 25 6 (.slice lP'.a lP'.n lP'.c) (V.take a ++ (k2, z2, o2, n2, ns2, ps2) :: V.drop a).length ((V.take a ++ (k2, z2, o2, n2, ns2, ps2) :: V.drop a).flatMap wvCells) →
       (∀ c, lN'.a = some c → lN.a = some c ∨ (w7.heap.size ≤ c.block ∧ c.block < w8.heap.size)) → (∀ c, lP'.a = some c → lP.a = some c ∨ (w7.heap.size ≤ c.block ∧ c.block < w8.heap.size)) →
       SoFar nsA psA (i + 1) N' (Q.take a ++ sortS x :: Q.drop a) → (nsA ≠ [] → N'.length = i + 1) →
       ∃ lN lP N V Q, TInv w m5 m6 m10 k z o n ns ps nsA psA lN lP N V Q (i + 1) w8 := by
      intro lN' lP' N' a w8 haV D8 F8 hnil oN oP bN bP hso hlN
      have hbP : ∀ c, lP.a = some c → m10 < c.block ∧ c.block < w7.heap.size := fun c hc => ⟨(I.belP c hc).1, Nat.lt_of_lt_of_le (I.belP c hc).2 H7.size⟩
      have hbN : ∀ c, lN.a = some c → m10 < c.block ∧ c.block < w7.heap.size := fun c hc => ⟨(I.belN c hc).1, Nat.lt_of_lt_of_le (I.belN c hc).2 H7.size⟩
      have h7s := H7.size
      have h8s := F8.size
      obtain ⟨l6, C6, hl6⟩ := I.b6
      refine ⟨lN', lP', N', V.take a ++ (k2, z2, o2, n2, ns2, ps2) :: V.drop a, Q.take a ++ sortS x :: Q.drop a, B7.fr F8 ?_, ⟨l6, (C6.fr H7 (fun h => h)).fr F8 ?_, hl6⟩, D8, (I.fr.tr H7).then F8 ?_, hnil, oN, oP, fun c hc => ?_, fun c hc => ?_, ?_, hso, hlN, ?_⟩
      ·rintro (h | ⟨c, hc, h⟩)
       ·omega
       ·have := hbP c hc; omega
      ·rintro (h | ⟨c, hc, h⟩)
       ·omega
       ·have := hbP c hc; omega
      ·rintro y hy (h | ⟨c, hc, h⟩)
       ·omega
       ·have := hbP c hc; omega
      ·rcases bN c hc with h | h
       ·have := hbN c h; omega
       ·omega
      ·rcases bP c hc with h | h
       ·have := hbP c h; omega
       ·omega
      ·have sp8 : SV w8 (fun b => b ≤ m10 ∨ (∃ c, lN'.a = some c ∧ c.block = b) ∨ (∃ c, lP'.a = some c ∧ c.block = b)) V Q := by
        have hF : Fr (fun b => b ≤ m10 ∨ (∃ c, lN.a = some c ∧ c.block = b) ∨ (∃ c, lP.a = some c ∧ c.block = b)) wi w8 := ((H7.mono fun _ _ h => h.elim).then F8 fun y hy h => by
         rcases h with h | h
         ·exact .inl (by omega)
         ·exact .inr (.inr h))
        refine I.sp.go hF fun y hy h => ?_
        rcases h with h | ⟨c, hc, h⟩ | ⟨c, hc, h⟩
        ·exact .inl h
        ·rcases bN c hc with h1 | h1
         ·exact .inr (.inl ⟨c, h1, h⟩)
         ·omega
        ·rcases bP c hc with h1 | h1
         ·exact .inr (.inr ⟨c, h1, h⟩)
         ·omega
       have hVQ := I.sp.1
       refine ⟨by simp only [List.length_append, List.length_cons, List.length_take, List.length_drop]; omega, fun j v q hj hq w9 F9 => ?_⟩
       rcases Nat.lt_trichotomy j a with h | h | h
       ·rw [List.getElem?_append_left (by rw [List.length_take]; omega), List.getElem?_take, if_pos h] at hj hq
        exact sp8.2 j v q hj hq w9 F9
       ·rw [List.getElem?_append_right (by rw [List.length_take]; omega), List.length_take, show j - min a V.length = 0 by omega] at hj
        rw [List.getElem?_append_right (by rw [List.length_take]; omega), List.length_take, show j - min a Q.length = 0 by omega] at hq
        cases hj
        cases hq
        refine hst w9 ?_
        have hF : Fr (fun b => b < wi.heap.size) w5 w8 := (J7.mono fun _ _ h => h.elim).then F8 fun y hy h => by
         rcases h with h | ⟨c, hc, h⟩
         ·have := D7.lt; show y < wi.heap.size; omega
         ·have := (I.belP c hc).2; show y < wi.heap.size; omega
        refine hF.then F9 fun y hy h => ?_
        have h57 := J7.size
        show y < wi.heap.size
        rcases h with h | ⟨c, hc, h⟩ | ⟨c, hc, h⟩
        ·omega
        ·rcases bN c hc with h1 | h1
         ·have := (I.belN c h1).2; omega
         ·omega
        ·rcases bP c hc with h1 | h1
         ·have := (I.belP c h1).2; omega
         ·omega
       ·rw [List.getElem?_append_right (by rw [List.length_take]; omega), List.length_take, show j - min a V.length = (j - 1 - a) + 1 by omega, List.getElem?_cons_succ, List.getElem?_drop] at hj
        rw [List.getElem?_append_right (by rw [List.length_take]; omega), List.length_take, show j - min a Q.length = (j - 1 - a) + 1 by omega, List.getElem?_cons_succ, List.getElem?_drop] at hq
        exact sp8.2 _ v q hj hq w9 F9
      ·have := I.lenQ
       have hVQ := I.sp.1
       simp only [List.length_append, List.length_cons, List.length_take, List.length_drop]
       omega
     refine B7.ldS (o := 4) rfl (ite_ok (fun hno => ?_) fun hsome => ?_)
     ·-- no names
      have hno : nsA = [] := by
       have h : ((ns.n : Nat) : Int) = 0 := by simpa using hno
       exact List.eq_nil_of_length_eq_zero (by omega)
      refine D7.ldS (o := 5) rfl (M7.ldW (new_ok fun w8 m36 hm36 hs8 E8 F8 => ?_))
      refine append_ok uVals hiP hzP p1 p2 p3 (by omega) (s := lP) (own_fr0 ownP7 F8) (m := 1) (news := vaCells k2 z2 o2 n2 ns2 ps2) rfl (E8.held fun j v hj => by rw [Nat.zero_add]; exact hj) (fun u hu => ?_) (by unfold maxLen; omega) (by omega) fun l37 w9 own9 F9 ha9 => ?_
      ·exact wv_one (V := [(k2, z2, o2, n2, ns2, ps2)]) u (by simpa [wvCells] using hu)
      have D9 := (D7.fr F8 (fun h => h)).fr F9 (by
       rintro ⟨c, hc, h⟩
       have := (I.belP c hc).1
       omega)
      refine D9.st (o := 5) rfl (by simp [vaCells]) fun w10 D10 F10 => hrec (by omega) _ ?_
      have hFr : Fr (fun b => b = m10 ∨ ∃ c, lP.a = some c ∧ c.block = b) w7 w10 := by
       refine ((F8.mono fun _ _ h => h.elim).then F9 fun y hy h => .inr h).then F10 fun y hy h => .inl h
      have hlNn := I.nil hno
      obtain ⟨hN0, hQ0⟩ : N = [] ∧ Q = (psA.map sortS).take i := by
       rcases I.st with ⟨_, h1, h2⟩ | ⟨h, _⟩
       ·exact ⟨h1, h2⟩
       ·exact absurd hno h
      refine next lN l37 N V.length w10 (Nat.le_refl _) D10 hFr (fun _ => hlNn) ?_ ?_ (fun c hc => .inl hc) (fun c hc => ?_) (.inl ⟨hno, hN0, ?_⟩) (fun h => absurd hno h)
      ·exact own_cells ownN7 hFr fun c hc => (by rw [hlNn] at hc; cases hc)
      ·rw [List.take_length, List.drop_length, List.length_append, List.flatMap_append]
       have h9 : w9.ownsRow 0 25 6 (.slice l37.a l37.n l37.c) (V.length + 1) (V.flatMap wvCells ++ vaCells k2 z2 o2 n2 ns2 ps2) := own9
       have e : [((k2, z2, o2, n2, ns2, ps2) : WV)].flatMap wvCells = vaCells k2 z2 o2 n2 ns2 ps2 := by simp [wvCells]
       rw [e]
       refine own_cells h9 F10 fun c hc h => ?_
       change c.block = m10 at h
       rcases ha9 c hc with h1 | h1
       ·have := (I.belP c h1).1; omega
       ·have := D7.lt
        have := F8.size
        omega
      ·rcases ha9 c hc with h1 | h1
       ·exact .inl h1
       ·have := F8.size
        have := F10.size
        exact .inr ⟨by omega, by omega⟩
      ·have hVQ := I.sp.1
       rw [hVQ, List.take_length, List.drop_length, hQ0, List.take_add_one, List.getElem?_map, hx]
       rfl
     ·-- names
      have hsome : nsA ≠ [] := by
       rintro rfl
       have : ¬ ((ns.n : Nat) : Int) = 0 := by simpa using hsome
       simp at hnn
       omega
      rcases I.st with ⟨h, _⟩ | ⟨_, M, hN, hQ, hup, hperm⟩
      ·exact absurd h hsome
      obtain ⟨hln, hnd⟩ := vform_len fa hsome
      have hNl : N.length = i := I.lenN hsome
      obtain ⟨nm, hnm⟩ : ∃ nm, nsA[i]? = some nm := ⟨_, List.getElem?_eq_getElem (by omega)⟩
      have hlNn : lN.n = N.length := (src_own ownN7 (Nat.zero_le _)).1
      refine join1_ok (c := .int .i64) (fun (y : Int) w' => ∃ a : Nat, y = (a : Int) ∧ a ≤ N.length ∧ (∀ (j : Nat) z, j < a → N[j]? = some z → ltB z nm = true) ∧ (∀ z, N[a]? = some z → ltB z nm = false) ∧ Fr noB w7 w') (fun kj hkj => ?_) ?_
      ·refine countL_ok N.length (by omega) (fun a w8 => (∀ (j : Nat) z, j < a → N[j]? = some z → ltB z nm = true) ∧ Fr noB w7 w8) (fun rec2 a w8 ha hI2 hrec2 => ?_) ⟨fun j z h => by omega, Fr.refl _ _⟩
       obtain ⟨hlt2, F8⟩ := hI2
       refine join1_ok (c := .bool) (fun (b : Bool) w9 => b = (N[a]?).any (fun z => ltB z nm) ∧ Fr noB w7 w9) (fun kj2 hkj2 => drew_ok fun w9 F9 z9 => ?_) ?_
       ·have G9 := F8.tr F9
        refine (D7.fr G9 (fun h => h)).ldS (o := 4) rfl (ite_ok (fun hl => ?_) fun hl => hkj2 _ _ ⟨?_, G9⟩)
        ·have hl : (a : Int) < ((lN.n : Nat) : Int) := of_decide_eq_true hl
         obtain ⟨z, hz⟩ : ∃ z, N[a]? = some z := ⟨_, List.getElem?_eq_getElem (by omega)⟩
         refine (D7.fr G9 (fun h => h)).ldS (o := 4) rfl (str_ld (s := lN) ((rds_own ownN7).fr G9) hz ((B7.fr G9 (fun h => h)).ldS (o := 4) rfl (str_ld (s := ns) (hns.fr ((I.fr.tr H7).tr G9)) hnm (hkj2 _ _ ⟨?_, G9⟩))))
         rw [hz, toList_bl, toList_bl, less_ltB, bl_bs, bl_bs]
         rfl
        ·have hl : ¬ (a : Int) < ((lN.n : Nat) : Int) := of_decide_eq_false hl
         rw [List.getElem?_eq_none (by omega)]
         rfl
       ·rintro b w9 ⟨rfl, G9⟩
        refine ite_ok (fun hb => join_in (vs := [.one (.int .i64)]) (hrec2 ?_ _ ⟨fun j z hj hz => ?_, G9⟩)) fun hb => hkj _ _ ⟨a, rfl, ha, hlt2, fun z hz => ?_, G9⟩
        ·rcases Nat.lt_or_ge a N.length with h | h
         ·exact h
         ·rw [List.getElem?_eq_none h] at hb
          cases hb
        ·rcases Nat.lt_succ_iff_lt_or_eq.1 hj with hj | rfl
         ·exact hlt2 j z hj hz
         ·rw [hz] at hb
          exact hb
        ·rw [hz] at hb
         exact hb
      rintro y w8 ⟨a, rfl, ha, hlo, hhi, F8⟩
      refine drew_ok fun w9 F9 z9 => ?_
      have G9 := F8.tr F9
      have D9 := D7.fr G9 (fun h => h)
      have B9 := B7.fr G9 (fun h => h)
      have M9 := M7.fr G9 (fun h => h)
      have ownN9 := own_fr0 ownN7 G9
      have ownP9 := own_fr0 ownP7 G9
      obtain ⟨hn1, hc1, sA, sB⟩ := src_own ownN9 ha
      refine D9.ldS (o := 4) rfl (assume_ok (decide_eq_true (Int.le_refl _)) (reslice_lo (l := lN) (by omega) ?_))
      refine B9.ldS (o := 4) rfl (str_ldA (s := ns) (hns.fr ((I.fr.tr H7).tr G9)) hnm fun a58 ha58 => D9.ldS (o := 4) rfl (assume_ok (decide_eq_true (Int.le_refl _)) (reslice_hi (l := lN) hn1 ha hc1 ?_)))
      have f1 : ∀ w', Fr noB w9 w' → Held w' (⟨m10, 4, none⟩, [.slice lN.a lN.n lN.c]) := fun w' F => (D9.fr F (fun h => h)).held1 rfl
      have f2 : ∀ w', Fr noB w9 w' → Held w' (⟨m5, 4, none⟩, [.slice ns.a ns.n ns.c]) := fun w' F => (B9.fr F (fun h => h)).held1 rfl
      have f3 : ∀ w', Fr noB w9 w' → Held w' (a58, [.string (bs nm)]) := fun w' F => held_one (F.cell ha58 (fun h => h))
      have one1 : ∀ {L : List B} (u : Value), u ∈ L.map (fun x => (Value.string (bs x))) → u.oneCell' = true := fun u hu => by
       obtain ⟨z, _, rfl⟩ := List.mem_map.1 hu
       rfl
      refine ins_ok uStrs' hiS hzS s1 s2 s3 (by omega) (x := #[.string (bs nm)]) rfl (fun u hu => by rw [List.mem_singleton.1 hu]; rfl) sA sB (fun u hu => one1 u (List.mem_of_mem_take hu)) (fun u hu => one1 u (List.mem_of_mem_drop hu)) (by unfold maxLen; omega) (by omega)
       (by repeat (first | exact Stay.nil | refine Stay.cons (by assumption) ?_)) (by repeat (first | exact Stay.nil | refine Stay.cons (by assumption) ?_)) (by repeat (first | exact Stay.nil | refine Stay.cons (by assumption) ?_)) (by repeat (first | exact Stay.nil | refine Stay.cons (by assumption) ?_)) (by repeat (first | exact Stay.nil | refine Stay.cons (by assumption) ?_)) (by repeat (first | exact Stay.nil | refine Stay.cons (by assumption) ?_)) (by repeat (first | exact Stay.nil | refine Stay.cons (by assumption) ?_)) (by repeat (first | exact Stay.nil | refine Stay.cons (by assumption) ?_)) (by repeat (first | exact Stay.nil | refine Stay.cons (by assumption) ?_)) (by repeat (first | exact Stay.nil | refine Stay.cons (by assumption) ?_)) (by repeat (first | exact Stay.nil | refine Stay.cons (by assumption) ?_)) (by repeat (first | exact Stay.nil | refine Stay.cons (by assumption) ?_)) (by repeat (first | exact Stay.nil | refine Stay.cons (by assumption) ?_)) (by repeat (first | exact Stay.nil | refine Stay.cons (by assumption) ?_)) fun lN' w10 own10 bel10 F10 => ?_
      refine (D9.fr F10 (fun h => h)).st (o := 4) rfl (by simp [vaCells]) fun w11 D11 F11 => drew_ok fun w12 F12 z12 => ?_
      have D12 := D11.fr F12 (fun h => h)
      change Blk w12 m10 _ (vaCells k z o n lN' lP) at D12
      have hm28 : m28 ≠ m10 := by have := D7.lt; omega
      have M12 := ((M9.fr F10 (fun h => h)).fr F11 (fun h => by unfold oneB at h; omega)).fr F12 (fun h => h)
      have hb10 : m10 < w9.heap.size := D9.lt
      have ownP12 := own_fr0 (own_cells (own_fr0 ownP9 F10) F11 fun c hc h => by have := (I.belP c hc).1; unfold oneB at h; omega) F12
      have own12 := own_fr0 (own_cells own10 F11 fun c hc h => by have := (bel10 c hc).1; unfold oneB at h; omega) F12
      have hVQ := I.sp.1
      have haV : a ≤ V.length := by omega
      obtain ⟨hn2, hc2, tA, tB⟩ := src_own ownP12 haV
      have e1 : ∀ w', Fr noB w12 w' → Held w' (⟨m10, 5, none⟩, [.slice lP.a lP.n lP.c]) := fun w' F => (D12.fr F (fun h => h)).held1 rfl
      have e2 : ∀ w', Fr noB w12 w' → Held w' (⟨m28, 0, none⟩, [.int .i64 k2, .int .i64 z2, .string o2, .string n2, .slice ns2.a ns2.n ns2.c, .slice ps2.a ps2.n ps2.c]) := fun w' F => (M12.fr F (fun h => h)).heldW
      refine D12.ldS (o := 5) rfl (assume_ok (decide_eq_true (Int.le_refl _)) (reslice_lo (l := lP) (by omega) (M12.ldW (D12.ldS (o := 5) rfl (assume_ok (decide_eq_true (Int.le_refl _)) (reslice_hi (l := lP) hn2 haV hc2 ?_))))))
      refine ins_ok uVals hiP hzP p1 p2 p3 (by omega) (x := #[.int .i64 k2, .int .i64 z2, .string o2, .string n2, .slice ns2.a ns2.n ns2.c, .slice ps2.a ps2.n ps2.c]) rfl (fun u hu => wv_one (V := [(k2, z2, o2, n2, ns2, ps2)]) u (by simpa [wvCells, vaCells] using hu)) tA tB (fun u hu => wv_one u (List.mem_of_mem_take hu)) (fun u hu => wv_one u (List.mem_of_mem_drop hu)) (by unfold maxLen; omega) (by omega)
       (by repeat (first | exact Stay.nil | refine Stay.cons (by assumption) ?_)) (by repeat (first | exact Stay.nil | refine Stay.cons (by assumption) ?_)) (by repeat (first | exact Stay.nil | refine Stay.cons (by assumption) ?_)) (by repeat (first | exact Stay.nil | refine Stay.cons (by assumption) ?_)) (by repeat (first | exact Stay.nil | refine Stay.cons (by assumption) ?_)) (by repeat (first | exact Stay.nil | refine Stay.cons (by assumption) ?_)) (by repeat (first | exact Stay.nil | refine Stay.cons (by assumption) ?_)) (by repeat (first | exact Stay.nil | refine Stay.cons (by assumption) ?_)) (by repeat (first | exact Stay.nil | refine Stay.cons (by assumption) ?_)) (by repeat (first | exact Stay.nil | refine Stay.cons (by assumption) ?_)) (by repeat (first | exact Stay.nil | refine Stay.cons (by assumption) ?_)) (by repeat (first | exact Stay.nil | refine Stay.cons (by assumption) ?_)) (by repeat (first | exact Stay.nil | refine Stay.cons (by assumption) ?_)) (by repeat (first | exact Stay.nil | refine Stay.cons (by assumption) ?_)) fun lP' w13 own13 bel13 F13 => ?_
      refine (D12.fr F13 (fun h => h)).st (o := 5) rfl (by simp [vaCells]) fun w14 D14 F14 => hrec (by omega) _ ?_
      have g9 := G9.size
      have g10 := F10.size
      have g11 := F11.size
      have g12 := F12.size
      have g13 := F13.size
      have g14 := F14.size
      refine next lN' lP' (N.take a ++ nm :: N.drop a) a w14 haV D14 ?_ (fun h => absurd h hsome) ?_ ?_ (fun c hc => .inr ?_) (fun c hc => .inr ?_) (.inr ⟨hsome, insertP nm (sortS x) M, ?_, ?_, ?_, ?_⟩) (fun _ => ?_)
      ·exact (((((G9.mono fun _ _ h => h.elim).then F10 fun _ _ h => h.elim).then F11 fun _ _ h => .inl h).then F12 fun _ _ h => h.elim).then F13 fun _ _ h => h.elim).then F14 fun _ _ h => .inl h
      ·have h14 := own_cells (own_fr0 own12 F13) F14 fun c hc h => by have := (bel10 c hc).1; unfold oneB at h; omega
       rw [Nat.mul_one, ← List.map_take, ← List.map_drop] at h14
       rw [show (N.take a ++ nm :: N.drop a).length = a + 1 + (N.length - a) by simp only [List.length_append, List.length_cons, List.length_take, List.length_drop]; omega, List.map_append, List.map_cons]
       simpa [List.append_assoc] using h14
      ·have h14 := own_cells own13 F14 fun c hc h => by have := (bel13 c hc).1; unfold oneB at h; omega
       rw [show (V.take a ++ (k2, z2, o2, n2, ns2, ps2) :: V.drop a).length = a + 1 + (V.length - a) by simp only [List.length_append, List.length_cons, List.length_take, List.length_drop]; omega]
       rw [List.flatMap_append, List.flatMap_cons, flat_take wvCells 6 (fun _ => rfl), flat_drop wvCells 6 (fun _ => rfl)]
       simpa [List.append_assoc, wvCells, vaCells] using h14
      ·have := bel10 c hc
       omega
      ·have := bel13 c hc
       omega
      ·rw [insertP_at (k := a) (by rw [← List.length_map (f := (·.1)), ← hN]; exact ha) (fun j z hj hz => hlo j z.1 hj (by rw [hN, List.getElem?_map, hz]; rfl)) (fun z hz => hhi z.1 (by rw [hN, List.getElem?_map, hz]; rfl)), List.map_append, List.map_cons, List.map_take, List.map_drop, ← hN]
      ·rw [insertP_at (k := a) (by rw [← List.length_map (f := (·.1)), ← hN]; exact ha) (fun j z hj hz => hlo j z.1 hj (by rw [hN, List.getElem?_map, hz]; rfl)) (fun z hz => hhi z.1 (by rw [hN, List.getElem?_map, hz]; rfl)), List.map_append, List.map_cons, List.map_take, List.map_drop, ← hQ]
      ·refine insertP_up hup fun z hz e => ?_
       have := hperm.mem_iff.1 hz
       obtain ⟨j, hj, hj2⟩ := List.mem_take_iff_getElem.1 this
       have hj3 : j < i := by omega
       rw [List.getElem_zip] at hj2
       have hjn : nsA[j]? = some nm := by
        rw [← hj2] at e
        exact List.getElem?_eq_some_iff.2 ⟨by omega, e⟩
       obtain ⟨q1, q2⟩ := List.getElem?_eq_some_iff.1 hjn
       obtain ⟨q3, q4⟩ := List.getElem?_eq_some_iff.1 hnm
       exact (List.pairwise_iff_getElem.1 (List.nodup_iff_pairwise_ne.1 hnd)) j i q1 q3 hj3 (by rw [q2, q4])
      ·refine (insertP_perm nm (sortS x) M).trans ?_
       have hz : (nsA.zip (psA.map sortS))[i]? = some (nm, sortS x) := by
        rw [List.getElem?_zip_eq_some]
        exact ⟨hnm, by rw [List.getElem?_map, hx]; rfl⟩
       rw [List.take_add_one, hz]
       exact (List.Perm.cons _ hperm).trans (List.perm_append_singleton _ _).symm
      ·simp only [List.length_append, List.length_cons, List.length_take, List.length_drop]
       omega
    ·have hge : ¬ (i : Int) < (ps.n : Int) := of_decide_eq_false hge
     have : i = psA.length := by omega
     subst this
     exact ⟨lN, lP, N, V, Q, I⟩
   ·by_cases h : nsA = []
    ·exact .inl ⟨h, rfl, by simp⟩
    ·exact .inr ⟨h, [], rfl, rfl, List.Pairwise.nil, by simp⟩
  ·rintro w5 ⟨lN, lP, N, V, Q, I⟩
   obtain ⟨l6, C6, hl6⟩ := I.b6
   refine I.b10.ldW (fill6_ok C6 hl6 rfl rfl rfl rfl rfl rfl fun w6 C7 F6 => ?_)
   change Blk w6 m6 _ (vaCells k z o n lN lP) at C7
   have hw6 : Fr noB w w6 := I.fr.fill (by omega) F6
   refine C7.ldW ⟨k, z, o, n, lN, lP, rfl, hw6, fun w7 F7 => ?_⟩
   have hm610 : m6 < m10 := by omega
   have own7 := own_cells (own_cells I.ownP F6 fun c hc h => by have := (I.belP c hc).1; unfold oneB at h; omega) F7 fun c hc h => by
    have := (I.belP c hc).1
    change c.block < w.heap.size at h
    omega
   have own8 := own_cells (own_cells I.ownN F6 fun c hc h => by have := (I.belN c hc).1; unfold oneB at h; omega) F7 fun c hc h => by
    have := (I.belN c hc).1
    change c.block < w.heap.size at h
    omega
   have hF57 : Fr (fun b => b ≤ m10 ∨ (∃ a, lN.a = some a ∧ a.block = b) ∨ (∃ a, lP.a = some a ∧ a.block = b)) w5 w7 := by
    have h56 : Fr (fun b => b ≤ m10 ∨ (∃ a, lN.a = some a ∧ a.block = b) ∨ (∃ a, lP.a = some a ∧ a.block = b)) w5 w6 := F6.mono fun y _ h => .inl (by unfold oneB at h; omega)
    refine h56.then F7 fun y hy h => .inl ?_
    change y < w.heap.size at h
    omega
   obtain ⟨hn7, hL7⟩ := vaL_own own7 I.sp.1 fun j v q hj hq => I.sp.2 j v q hj hq w7 hF57
   have hR8 := rds_own own8
   rcases I.st with ⟨h0, hN, hQ⟩ | ⟨h0, M, hN, hQ, hup, hperm⟩
   ·rw [List.take_of_length_le (by rw [List.length_map]; exact Nat.le_refl _)] at hQ
    rw [h0, sortS_nil]
    unfold VaV
    rw [hN] at hR8
    rw [hQ] at hL7 hn7
    exact ⟨ek, eo, en, ⟨hz, hR8, by simp, hn7, by rw [List.length_map]; exact hpl, hos, hnz, fun x hx => (by cases hx)⟩, hL7⟩
   ·obtain ⟨hln, hnd⟩ := vform_len fa (id h0)
    have hM : M = pairs nsA psA := by
     rw [List.take_of_length_le (by rw [List.length_zip, List.length_map]; omega)] at hperm
     refine up_sortP ?_ hup hperm
     rw [List.map_fst_zip (by rw [List.length_map]; omega)]
     exact hnd
    rw [sortS_cons h0, ← hM, ← hN, ← hQ]
    unfold VaV
    have hNlen := I.lenN h0
    refine ⟨ek, eo, en, ⟨hz, hR8, by omega, hn7, by rw [I.lenQ]; exact hpl, hos, hnz, fun x hx => hxl x ?_⟩, hL7⟩
    rw [hN, hM] at hx
    exact (pairs_names hln).mem_iff.1 hx
end Go.Proofs.YtngfnokbdcjoeaaGreatDoor
end
