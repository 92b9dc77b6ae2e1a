/- The law behind: one part of its proof (joined by program out of my own texts). No condition. -/
import Derived.Test.YtngfnokbdcjoeaaGreatDoorValAW
import Derived.Tactics
import Derived.Tactics2
import Derived.Defers
import Derived.Laws.Pointers
import Derived.Laws.LoneSync
import Derived.RegionTactic
import Derived.RegionCalls
import Derived.ChangeAlike
import Derived.Lib.SmallJoins
section
namespace Go.Proofs.YtngfnokbdcjoeaaGreatDoor
open Go.Lift Go.Lex Go.Shp
theorem own_box {w : World} {b : Nat} {e : TypeId} {size : Nat} {xs : List Value} (h : Blk w b e xs) (hx : xs.length = size) : w.ownsRow 0 e size (.slice (some ⟨b, 0, none⟩) 1 1) 1 xs := by
 refine ⟨by rw [hx, Nat.one_mul], .inr ⟨b, 1, xs.toArray, rfl, Nat.zero_le _, h, Nat.le_refl _, by unfold maxLen; omega, by simp [hx], ?_⟩⟩
 rw [Nat.one_mul, List.take_of_length_le (by simp [hx])]
theorem src_whole {w : World} {e : TypeId} {sz n : Nat} {l : Sl} {xs : List Value} (h : w.ownsRow 0 e sz (.slice l.a l.n l.c) n xs) : SrcC w l sz xs := by
 obtain ⟨e1, _, h1, _⟩ := src_own h (Nat.le_refl n)
 have ha : (if l.c = 0 then l.a else l.a.map (·.add (0 * sz))) = l.a := by
  split
  ·rfl
  ·cases l.a with
   | none => rfl
   | some a => simp [Addr.add]
 rw [ha, ← e1, List.take_of_length_le (by rw [h.1, e1]; exact Nat.le_refl _)] at h1
 exact h1
def TSoFar (ns : List B) (ps : List Shape) (i : Nat) (N : List B) (Q : List Shape) : Prop :=
 (ns = [] ∧ N = [] ∧ Q = (ps.map turn).take i) ∨ (ns ≠ [] ∧ N = (ns.take i).reverse ∧ Q = ((ps.map turn).take i).reverse)
structure UInv (w : World) (m5 m6 m10 : Nat) (k z : Int) (o n : ByteArray) (ns ps : Sl) (names : List B) (parts : List Shape) (lN lP : Sl) (N : List B) (V : List WV) (Q : List Shape) (i : Nat) (wi : World) : Prop where
 b5 : Blk wi m5 25 (vaCells k z o n ns ps)
 b6 : ∃ l, Blk wi m6 25 l ∧ l.length = 6
 b10 : Blk wi m10 25 (vaCells k z o n lN lP)
 fr : Fr noB w wi
 nil : names = [] → lN.a = none
 ownN : wi.ownsRow 0 9 1 (.slice lN.a lN.n lN.c) N.length (N.map fun x => .string (bs x))
 ownP : wi.ownsRow 0 25 6 (.slice lP.a lP.n lP.c) V.length (V.flatMap wvCells)
 belN : ∀ a, lN.a = some a → m10 < a.block ∧ a.block < wi.heap.size
 belP : ∀ a, lP.a = some a → m10 < a.block ∧ a.block < wi.heap.size
 sp : SV wi (fun b => b ≤ m10 ∨ (∃ a, lN.a = some a ∧ a.block = b) ∨ (∃ a, lP.a = some a ∧ a.block = b)) V Q
 st : TSoFar names parts i N Q
 lenN : names ≠ [] → N.length = i
 lenQ : Q.length = i
set_option maxHeartbeats 4000000 in
theorem turned_go : ∀ (d : Nat) (s : Shape), size s ≤ d → size s ≤ 2000 → formed s = true → ∀ {w : World} {k z : Int} {o n : ByteArray} {ns ps : Sl}, VaV w k z o n ns ps s → Calls Tryz.prog 21 #[vaArg k z o n ns ps] w (SortV w (turn s))
 | 0, s, h, _, _, _, _, _, _, _, _, _, _ => by have := size_pos s; omega
 | d + 1, .mk kA oA nA nsA psA, hd, hd2, hfit, w, k, z, o, n, ns, ps, hv => by
  rw [size_mk] at hd hd2
  obtain ⟨fa, hfa⟩ := formed_parts hfit
  obtain ⟨ek, eo, en, ⟨hz, hns, hnl, hpn, hpl, hos, hnz, hxl⟩, hps⟩ := hv.parts
  change kA = vk k z at ek
  change bl o = oA at eo
  change bl n = nA at en
  change RdS w ns (nsA.map bs) at hns
  change nsA.length * 16 ≤ 140737488351232 at hnl
  change ps.n = psA.length at hpn
  change psA.length < 4611686018427387904 at hpl
  change ∀ x ∈ nsA, x.length < 4611686018427387904 at hxl
  change VaL w ps.a 0 psA at hps
  have hnn := hns.1
  rw [List.length_map] at hnn
  have hplen : psA.length ≤ 2000 := by have := sizes_len psA; omega
  obtain ⟨iS, zS, hiS, hzS, s1, s2, s3⟩ := infoStr
  obtain ⟨iP, zP, hiP, hzP, p1, p2, p3⟩ := infoVal
  apply c21
  unfold t21 wrZ tvZ svZ ldSZ ldLZ ld6mZ ld6xZ vaZ st6Z nw6Z nz6Z ca6Z nwZ jn0Z lpIZ ixZ
  refine new_ok fun w1 m5 hm5 hs1 B1 F1 => new_ok fun w2 m6 hm6 hs2 C2 F2 => ?_
  have B2 := B1.fr F2 (fun h => h)
  change Blk w2 m5 _ (vaCells k z o n ns ps) at B2
  clear B1
  refine B2.ldW (new_ok fun w3 m10 hm10 hs3 D3 F3 => fill6_ok D3 rfl rfl rfl rfl rfl rfl rfl fun w3b D3b F3b => D3b.st (o := 4) rfl (by simp) fun w3c D3c F3c => D3c.st (o := 5) rfl (by simp) fun w4 D4 F4x => ?_)
  change Blk w4 m10 _ (vaCells k z o n ⟨none, 0, 0⟩ ⟨none, 0, 0⟩) at D4
  have F4 : Fr (oneB m10) w3 w4 := st_fr (st_fr F3b F3c) F4x
  have G4 : Fr noB w w4 := ((F1.tr F2).tr F3).fill (by omega) F4
  have G24 : Fr noB w2 w4 := F3.fill (by omega) F4
  have B4 := B2.fr G24 (fun h => h)
  have C4 := C2.fr G24 (fun h => h)
  refine join0_ok (fun w' => ∃ lN lP N V Q, UInv w m5 m6 m10 k z o n ns ps nsA psA lN lP N V Q psA.length w') (fun kend hkend => ?_) ?_
  ·refine countL_ok psA.length (by omega) (fun i w' => ∃ lN lP N V Q, UInv w m5 m6 m10 k z o n ns ps nsA psA lN lP N V Q i w') (fun rec i wi hi hI hrec => ?_) ⟨⟨none, 0, 0⟩, ⟨none, 0, 0⟩, [], [], [], B4, ⟨_, C4, rfl⟩, D4, G4, fun _ => rfl, ⟨rfl, .inl ⟨rfl, rfl⟩⟩, ⟨rfl, .inl ⟨rfl, rfl⟩⟩, fun a ha => (by cases ha), fun a ha => (by cases ha), ⟨rfl, fun j v q hj => (by simp at hj)⟩, ?_, fun _ => rfl, rfl⟩
   ·obtain ⟨lN, lP, N, V, Q, I⟩ := hI
    refine I.b5.ldS (o := 5) rfl (ite_ok (fun hlt => ?_) fun hge => hkend _ ?_)
    ·have hlt : (i : Int) < (ps.n : Int) := of_decide_eq_true hlt
     obtain ⟨x, hx⟩ : ∃ x, psA[i]? = some x := ⟨_, List.getElem?_eq_getElem (by omega)⟩
     have hxm := List.mem_of_getElem? hx
     have hsz := size_mem hxm
     refine join_in (vs := []) (I.b5.ldS (o := 5) rfl (vpart_ld (hps.fr I.fr) hx hpn fun k1 z1 o1 n1 ns1 ps1 hv1 => ?_))
     refine callSortV_ok (turned_go d x (by omega) (by omega) (hfa x hxm) hv1) fun k2 z2 o2 n2 ns2 ps2 w5 F5 hst => ?_
     refine new_ok fun w6 m28 hm28 hs6 M6 F6 => fill6_ok M6 rfl rfl rfl rfl rfl rfl rfl fun w7 M7 F7 => ?_
     change Blk w7 m28 _ (vaCells k2 z2 o2 n2 ns2 ps2) at M7
     have H7 : Fr noB wi w7 := (F5.tr F6).fill (by have := F5.size; omega) F7
     have J7 : Fr noB w5 w7 := F6.fill (by omega) F7
     have B7 := I.b5.fr H7 (fun h => h)
     have D7 := I.b10.fr H7 (fun h => h)
     have ownN7 := own_fr0 I.ownN H7
     have ownP7 := own_fr0 I.ownP H7
     have h10 := I.b10.lt
     have hm28i : wi.heap.size ≤ m28 := by have := F5.size; omega
     have h528 : w5.heap.size ≤ m28 := by omega
     have hmV : V.length = i := by rw [I.sp.1, I.lenQ]
     -- what the next round needs
     have next : ∀ (lN' lP' : Sl) (N' : List B) (a : Nat) (w8 : World), a ≤ V.length → Blk w8 m10 25 (vaCells k z o n lN' lP') →
       Fr (fun b => b = m10 ∨ ∃ c, lP.a = some c ∧ c.block = b) w7 w8 → (nsA = [] → lN'.a = none) → w8.ownsRow 0 9 1 (.slice lN'.a lN'.n lN'.c) N'.length (N'.map fun x => .string (bs x)) →
       w8.ownsRow 0 25 6 (.slice lP'.a lP'.n lP'.c) (V.take a ++ (k2, z2, o2, n2, ns2, ps2) :: V.drop a).length ((V.take a ++ (k2, z2, o2, n2, ns2, ps2) :: V.drop a).flatMap wvCells) →
       (∀ c, lN'.a = some c → lN.a = some c ∨ (w7.heap.size ≤ c.block ∧ c.block < w8.heap.size)) → (∀ c, lP'.a = some c → lP.a = some c ∨ (w7.heap.size ≤ c.block ∧ c.block < w8.heap.size)) →
       TSoFar nsA psA (i + 1) N' (Q.take a ++ turn x :: Q.drop a) → (nsA ≠ [] → N'.length = i + 1) →
       ∃ lN lP N V Q, UInv w m5 m6 m10 k z o n ns ps nsA psA lN lP N V Q (i + 1) w8 := by
      intro lN' lP' N' a w8 haV D8 F8 hnil oN oP bN bP hso hlN
      have hbP : ∀ c, lP.a = some c → m10 < c.block ∧ c.block < w7.heap.size := fun c hc => ⟨(I.belP c hc).1, Nat.lt_of_lt_of_le (I.belP c hc).2 H7.size⟩
      have hbN : ∀ c, lN.a = some c → m10 < c.block ∧ c.block < w7.heap.size := fun c hc => ⟨(I.belN c hc).1, Nat.lt_of_lt_of_le (I.belN c hc).2 H7.size⟩
      have h7s := H7.size
      have h8s := F8.size
      obtain ⟨l6, C6, hl6⟩ := I.b6
      refine ⟨lN', lP', N', V.take a ++ (k2, z2, o2, n2, ns2, ps2) :: V.drop a, Q.take a ++ turn x :: Q.drop a, B7.fr F8 ?_, ⟨l6, (C6.fr H7 (fun h => h)).fr F8 ?_, hl6⟩, D8, (I.fr.tr H7).then F8 ?_, hnil, oN, oP, fun c hc => ?_, fun c hc => ?_, ?_, hso, hlN, ?_⟩
      ·rintro (h | ⟨c, hc, h⟩)
       ·omega
       ·have := hbP c hc; omega
      ·rintro (h | ⟨c, hc, h⟩)
       ·omega
       ·have := hbP c hc; omega
      ·rintro y hy (h | ⟨c, hc, h⟩)
       ·omega
       ·have := hbP c hc; omega
      ·rcases bN c hc with h | h
       ·have := hbN c h; omega
       ·omega
      ·rcases bP c hc with h | h
       ·have := hbP c h; omega
       ·omega
      ·have sp8 : SV w8 (fun b => b ≤ m10 ∨ (∃ c, lN'.a = some c ∧ c.block = b) ∨ (∃ c, lP'.a = some c ∧ c.block = b)) V Q := by
        have hF : Fr (fun b => b ≤ m10 ∨ (∃ c, lN.a = some c ∧ c.block = b) ∨ (∃ c, lP.a = some c ∧ c.block = b)) wi w8 := ((H7.mono fun _ _ h => h.elim).then F8 fun y hy h => by
         rcases h with h | h
         ·exact .inl (by omega)
         ·exact .inr (.inr h))
        refine I.sp.go hF fun y hy h => ?_
        rcases h with h | ⟨c, hc, h⟩ | ⟨c, hc, h⟩
        ·exact .inl h
        ·rcases bN c hc with h1 | h1
         ·exact .inr (.inl ⟨c, h1, h⟩)
         ·omega
        ·rcases bP c hc with h1 | h1
         ·exact .inr (.inr ⟨c, h1, h⟩)
         ·omega
       have hVQ := I.sp.1
       refine ⟨by simp only [List.length_append, List.length_cons, List.length_take, List.length_drop]; omega, fun j v q hj hq w9 F9 => ?_⟩
       rcases Nat.lt_trichotomy j a with h | h | h
       ·rw [List.getElem?_append_left (by rw [List.length_take]; omega), List.getElem?_take, if_pos h] at hj hq
        exact sp8.2 j v q hj hq w9 F9
       ·rw [List.getElem?_append_right (by rw [List.length_take]; omega), List.length_take, show j - min a V.length = 0 by omega] at hj
        rw [List.getElem?_append_right (by rw [List.length_take]; omega), List.length_take, show j - min a Q.length = 0 by omega] at hq
        cases hj
        cases hq
        refine hst w9 ?_
        have hF : Fr (fun b => b < wi.heap.size) w5 w8 := (J7.mono fun _ _ h => h.elim).then F8 fun y hy h => by
         rcases h with h | ⟨c, hc, h⟩
         ·have := D7.lt; show y < wi.heap.size; omega
         ·have := (I.belP c hc).2; show y < wi.heap.size; omega
        refine hF.then F9 fun y hy h => ?_
        have h57 := J7.size
        show y < wi.heap.size
        rcases h with h | ⟨c, hc, h⟩ | ⟨c, hc, h⟩
        ·omega
        ·rcases bN c hc with h1 | h1
         ·have := (I.belN c h1).2; omega
         ·omega
        ·rcases bP c hc with h1 | h1
         ·have := (I.belP c h1).2; omega
         ·omega
       ·rw [List.getElem?_append_right (by rw [List.length_take]; omega), List.length_take, show j - min a V.length = (j - 1 - a) + 1 by omega, List.getElem?_cons_succ, List.getElem?_drop] at hj
        rw [List.getElem?_append_right (by rw [List.length_take]; omega), List.length_take, show j - min a Q.length = (j - 1 - a) + 1 by omega, List.getElem?_cons_succ, List.getElem?_drop] at hq
        exact sp8.2 _ v q hj hq w9 F9
      ·have := I.lenQ
       have hVQ := I.sp.1
       simp only [List.length_append, List.length_cons, List.length_take, List.length_drop]
       omega
     refine B7.ldS (o := 4) rfl (ite_ok (fun hno => ?_) fun hsome => ?_)
     ·-- no names
      have hno : nsA = [] := by
       have h : ((ns.n : Nat) : Int) = 0 := by simpa using hno
       exact List.eq_nil_of_length_eq_zero (by omega)
      refine D7.ldS (o := 5) rfl (M7.ldW (new_ok fun w8 m36 hm36 hs8 E8 F8 => ?_))
      refine append_ok uVals hiP hzP p1 p2 p3 (by omega) (s := lP) (own_fr0 ownP7 F8) (m := 1) (news := vaCells k2 z2 o2 n2 ns2 ps2) rfl (E8.held fun j v hj => by rw [Nat.zero_add]; exact hj) (fun u hu => ?_) (by unfold maxLen; omega) (by omega) fun l37 w9 own9 F9 ha9 => ?_
      ·exact wv_one (V := [(k2, z2, o2, n2, ns2, ps2)]) u (by simpa [wvCells] using hu)
      have D9 := (D7.fr F8 (fun h => h)).fr F9 (by
       rintro ⟨c, hc, h⟩
       have := (I.belP c hc).1
       omega)
      refine D9.st (o := 5) rfl (by simp [vaCells]) fun w10 D10 F10 => hrec (by omega) _ ?_
      have hFr : Fr (fun b => b = m10 ∨ ∃ c, lP.a = some c ∧ c.block = b) w7 w10 := by
       refine ((F8.mono fun _ _ h => h.elim).then F9 fun y hy h => .inr h).then F10 fun y hy h => .inl h
      have hlNn := I.nil hno
      obtain ⟨hN0, hQ0⟩ : N = [] ∧ Q = (psA.map turn).take i := by
       rcases I.st with ⟨_, h1, h2⟩ | ⟨h, _⟩
       ·exact ⟨h1, h2⟩
       ·exact absurd hno h
      refine next lN l37 N V.length w10 (Nat.le_refl _) D10 hFr (fun _ => hlNn) ?_ ?_ (fun c hc => .inl hc) (fun c hc => ?_) (.inl ⟨hno, hN0, ?_⟩) (fun h => absurd hno h)
      ·exact own_cells ownN7 hFr fun c hc => (by rw [hlNn] at hc; cases hc)
      ·rw [List.take_length, List.drop_length, List.length_append, List.flatMap_append]
       have h9 : w9.ownsRow 0 25 6 (.slice l37.a l37.n l37.c) (V.length + 1) (V.flatMap wvCells ++ vaCells k2 z2 o2 n2 ns2 ps2) := own9
       have e : [((k2, z2, o2, n2, ns2, ps2) : WV)].flatMap wvCells = vaCells k2 z2 o2 n2 ns2 ps2 := by simp [wvCells]
       rw [e]
       refine own_cells h9 F10 fun c hc h => ?_
       change c.block = m10 at h
       rcases ha9 c hc with h1 | h1
       ·have := (I.belP c h1).1; omega
       ·have := D7.lt
        have := F8.size
        omega
      ·rcases ha9 c hc with h1 | h1
       ·exact .inl h1
       ·have := F8.size
        have := F10.size
        exact .inr ⟨by omega, by omega⟩
      ·have hVQ := I.sp.1
       rw [hVQ, List.take_length, List.drop_length, hQ0, List.take_add_one, List.getElem?_map, hx]
       rfl
     ·-- names
      have hsome : nsA ≠ [] := by
       rintro rfl
       have : ¬ ((ns.n : Nat) : Int) = 0 := by simpa using hsome
       simp at hnn
       omega
      rcases I.st with ⟨h, _⟩ | ⟨_, hN, hQ⟩
      ·exact absurd h hsome
      obtain ⟨hln, hnd⟩ := vform_len fa hsome
      have hNl : N.length = i := I.lenN hsome
      obtain ⟨nm, hnm⟩ : ∃ nm, nsA[i]? = some nm := ⟨_, List.getElem?_eq_getElem (by omega)⟩
      refine drew_ok fun w9 G9 z9 => ?_
      have D9 := D7.fr G9 (fun h => h)
      have B9 := B7.fr G9 (fun h => h)
      have M9 := M7.fr G9 (fun h => h)
      have ownN9 := own_fr0 ownN7 G9
      have ownP9 := own_fr0 ownP7 G9
      have hb10 : m10 < w9.heap.size := D9.lt
      have f1 : ∀ w', Fr noB w9 w' → Held w' (⟨m10, 4, none⟩, [.slice lN.a lN.n lN.c]) := fun w' F => (D9.fr F (fun h => h)).held1 rfl
      have f2 : ∀ w', Fr noB w9 w' → Held w' (⟨m5, 4, none⟩, [.slice ns.a ns.n ns.c]) := fun w' F => (B9.fr F (fun h => h)).held1 rfl
      refine B9.ldS (o := 4) rfl (str_ldA (s := ns) (hns.fr ((I.fr.tr H7).tr G9)) hnm fun a58 ha58 => D9.ldS (o := 4) rfl (new_ok fun w10 m40 hm40 hs10 E10 F10 => ?_))
      refine Stay.go (w := w9) (by repeat (first | exact Stay.nil | refine Stay.cons (by assumption) ?_)) F10 ?_
      have hlNn : lN.n = N.length := (src_own ownN9 (Nat.le_refl _)).1
      refine appendR_ok uStrs' hiS hzS s1 s2 s3 (by omega) (s := ⟨some ⟨m40, 0, none⟩, 1, 1⟩) (own_box E10 rfl) (q := lN) (src_whole (own_fr0 ownN9 F10)) (fun u hu => by
       obtain ⟨z, _, rfl⟩ := List.mem_map.1 hu
       rfl) (by change 1 + lN.n ≤ _; unfold maxLen; omega) (by change (1 + lN.n) * 16 ≤ _; omega) fun lN' w11 own11 F11 ha11 => ?_
      have G11 : Fr noB w9 w11 := F10.then F11 fun y hy ⟨c, hc, h⟩ => by cases hc; change m40 = y at h; omega
      have g10 := F10.size
      have g11 := F11.size
      have bel11 : ∀ c, lN'.a = some c → w9.heap.size ≤ c.block ∧ c.block < w11.heap.size := fun c hc => by
       rcases ha11 c hc with h1 | h1
       ·cases h1
        exact ⟨by change w9.heap.size ≤ m40; omega, by change m40 < w11.heap.size; omega⟩
       ·omega
      refine Stay.go (w := w9) (by repeat (first | exact Stay.nil | refine Stay.cons (by assumption) ?_)) G11 ?_
      refine (D9.fr G11 (fun h => h)).st (o := 4) rfl (by simp [vaCells]) fun w12 D12 F12 => ?_
      change Blk w12 m10 _ (vaCells k z o n lN' lP) at D12
      have hm28 : m28 ≠ m10 := by have := D7.lt; omega
      have M12 := (M9.fr G11 (fun h => h)).fr F12 (fun h => by unfold oneB at h; omega)
      have ownP12 := own_cells (own_fr0 ownP9 G11) F12 fun c hc h => by have := (I.belP c hc).1; unfold oneB at h; omega
      have own12 := own_cells own11 F12 fun c hc h => by have := (bel11 c hc).1; unfold oneB at h; omega
      have hVQ := I.sp.1
      refine M12.ldW (new_ok fun w13 m50 hm50 hs13 E13 F13 => (D12.fr F13 (fun h => h)).ldS (o := 5) rfl ?_)
      have hlPn : lP.n = V.length := (src_own ownP12 (Nat.le_refl _)).1
      refine appendR_ok uVals hiP hzP p1 p2 p3 (by omega) (s := ⟨some ⟨m50, 0, none⟩, 1, 1⟩) (own_box E13 rfl) (q := lP) (src_whole (own_fr0 ownP12 F13)) (fun u hu => wv_one u hu) (by unfold maxLen; omega) (by omega) fun lP' w14 own14 F14 ha14 => ?_
      have g12 := F12.size
      have g13 := F13.size
      have g14 := F14.size
      have G14 : Fr noB w12 w14 := F13.then F14 fun y hy ⟨c, hc, h⟩ => by cases hc; change m50 = y at h; omega
      have bel14 : ∀ c, lP'.a = some c → w12.heap.size ≤ c.block ∧ c.block < w14.heap.size := fun c hc => by
       rcases ha14 c hc with h1 | h1
       ·cases h1
        exact ⟨by change w12.heap.size ≤ m50; omega, by change m50 < w14.heap.size; omega⟩
       ·omega
      refine (D12.fr G14 (fun h => h)).st (o := 5) rfl (by simp [vaCells]) fun w15 D15 F15 => hrec (by omega) _ ?_
      have g9 := G9.size
      have g15 := F15.size
      refine next lN' lP' (nm :: N) 0 w15 (Nat.zero_le _) D15 ?_ (fun h => absurd h hsome) ?_ ?_ (fun c hc => .inr ?_) (fun c hc => .inr ?_) (.inr ⟨hsome, ?_, ?_⟩) (fun _ => by rw [List.length_cons]; omega)
      ·exact (((G9.tr G11).mono fun _ _ h => h.elim).then F12 fun _ _ h => .inl h).then G14 (fun _ _ h => h.elim) |>.then F15 fun _ _ h => .inl h
      ·have h15 := own_cells (own_fr0 own12 G14) F15 fun c hc h => by have := (bel11 c hc).1; unfold oneB at h; omega
       rw [hlNn, Nat.add_comm 1] at h15
       exact h15
      ·have h15 := own_cells own14 F15 fun c hc h => by have := (bel14 c hc).1; unfold oneB at h; omega
       rw [hlPn, Nat.add_comm 1] at h15
       simpa [wvCells, vaCells] using h15
      ·have := bel11 c hc
       omega
      ·have := bel14 c hc
       omega
      ·rw [hN, List.take_add_one, hnm]
       simp
      ·rw [hQ, List.take_add_one, List.getElem?_map, hx]
       simp
    ·have hge : ¬ (i : Int) < (ps.n : Int) := of_decide_eq_false hge
     have : i = psA.length := by omega
     subst this
     exact ⟨lN, lP, N, V, Q, I⟩
   ·by_cases h : nsA = []
    ·exact .inl ⟨h, rfl, by simp⟩
    ·exact .inr ⟨h, rfl, rfl⟩
  ·rintro w5 ⟨lN, lP, N, V, Q, I⟩
   obtain ⟨l6, C6, hl6⟩ := I.b6
   refine I.b10.ldW (fill6_ok C6 hl6 rfl rfl rfl rfl rfl rfl fun w6 C7 F6 => ?_)
   change Blk w6 m6 _ (vaCells k z o n lN lP) at C7
   have hw6 : Fr noB w w6 := I.fr.fill (by omega) F6
   refine C7.ldW ⟨k, z, o, n, lN, lP, rfl, hw6, fun w7 F7 => ?_⟩
   have hm610 : m6 < m10 := by omega
   have own7 := own_cells (own_cells I.ownP F6 fun c hc h => by have := (I.belP c hc).1; unfold oneB at h; omega) F7 fun c hc h => by
    have := (I.belP c hc).1
    change c.block < w.heap.size at h
    omega
   have own8 := own_cells (own_cells I.ownN F6 fun c hc h => by have := (I.belN c hc).1; unfold oneB at h; omega) F7 fun c hc h => by
    have := (I.belN c hc).1
    change c.block < w.heap.size at h
    omega
   have hF57 : Fr (fun b => b ≤ m10 ∨ (∃ a, lN.a = some a ∧ a.block = b) ∨ (∃ a, lP.a = some a ∧ a.block = b)) w5 w7 := by
    have h56 : Fr (fun b => b ≤ m10 ∨ (∃ a, lN.a = some a ∧ a.block = b) ∨ (∃ a, lP.a = some a ∧ a.block = b)) w5 w6 := F6.mono fun y _ h => .inl (by unfold oneB at h; omega)
    refine h56.then F7 fun y hy h => .inl ?_
    change y < w.heap.size at h
    omega
   obtain ⟨hn7, hL7⟩ := vaL_own own7 I.sp.1 fun j v q hj hq => I.sp.2 j v q hj hq w7 hF57
   have hR8 := rds_own own8
   have htm : turnL psA = psA.map turn := turnL_map psA
   rcases I.st with ⟨h0, hN, hQ⟩ | ⟨h0, hN, hQ⟩
   ·rw [List.take_of_length_le (by rw [List.length_map]; exact Nat.le_refl _)] at hQ
    rw [turn, if_pos h0, htm]
    unfold VaV
    rw [hN] at hR8
    rw [hQ] at hL7 hn7
    exact ⟨ek, eo, en, ⟨hz, hR8, by simp, hn7, by rw [List.length_map]; exact hpl, hos, hnz, fun x hx => (by cases hx)⟩, hL7⟩
   ·obtain ⟨hln, hnd⟩ := vform_len fa (id h0)
    rw [List.take_of_length_le (by rw [List.length_map]; exact Nat.le_refl _)] at hQ
    rw [List.take_of_length_le (by omega)] at hN
    rw [turn, if_neg h0, htm, ← hN, ← hQ]
    unfold VaV
    have hNlen := I.lenN h0
    refine ⟨ek, eo, en, ⟨hz, hR8, by omega, hn7, by rw [I.lenQ]; exact hpl, hos, hnz, fun x hx => hxl x ?_⟩, hL7⟩
    rw [hN] at hx
    exact List.mem_reverse.1 hx
end Go.Proofs.YtngfnokbdcjoeaaGreatDoor
end
section
namespace Go.Proofs.YtngfnokbdcjoeaaGreatDoor
open Go.Lift Go.Lex Go.Shp
def AwakeC : Prop := ∀ {w : World}, GlobV w → AnsB 13 #[] w true
theorem vsize_eq (s : Shape) : ((if 2000 < size s then 2001 else (size s : Int)) == ((refSize s 2000 : Nat) : Int)) = true := by
 have h1 := refSize_spec s 2000
 have h2 := refSize_le s 2000
 rw [beq_iff_eq]
 split
 ·rename_i h
  have := h1.2 h
  omega
 ·rename_i h
  have := h1.1 (by omega)
  omega
theorem held6 {w : World} {m : Nat} {t : TypeId} {k z : Int} {o n : ByteArray} {ns ps : Sl} (B : Blk w m t (vaCells k z o n ns ps)) : ∀ w', Fr noB w w' → Held w' (⟨m, 0, none⟩, [.int .i64 k, .int .i64 z, .string o, .string n, .slice ns.a ns.n ns.c, .slice ps.a ps.n ps.c]) := fun _ F => (B.fr F (fun h => h)).heldW
theorem held5 {w : World} {m : Nat} {t : TypeId} {k : Int} {o n : ByteArray} {ns ps : Sl} (B : Blk w m t (shCells k o n ns ps)) : ∀ w', Fr noB w w' → Held w' (⟨m, 0, none⟩, [.int .i64 k, .string o, .string n, .slice ns.a ns.n ns.c, .slice ps.a ps.n ps.c]) := fun _ F => (B.fr F (fun h => h)).heldV
section
variable {w : World} {v v2 s : Shape} {k z : Int} {o n : ByteArray} {ns ps : Sl} {k2 z2 : Int} {o2 n2 : ByteArray} {ns2 ps2 : Sl}
set_option maxHeartbeats 2000000 in
theorem ValueChecks_ok (hA : AwakeC) (hg : GlobV w) (hv : VaV w k z o n ns ps v) : AnsB 3 #[vaArg k z o n ns ps] w true := by
 apply c3
 unfold t3 ivZ ld6mZ vaZ kf6Z nw6Z caBZ caIZ jnBZ
 refine new_ok fun w1 m6 hm6 hs1 B1 F1 => ?_
 change Blk w1 m6 _ (vaCells k z o n ns ps) at B1
 have fB := held6 B1
 refine join1_ok (c := .bool) (fun (b : Bool) w' => b = true ∧ Fr noB w w') (fun kj hkj => drew_ok fun w3 F3 z3 => ?_) fun b w' ⟨hb, F⟩ => ⟨by rw [hb], F⟩
 have B3 := B1.fr F3 (fun h => h)
 have G3 := F1.tr F3
 refine B3.ldW (B3.ldW (callI_ok (PCheck_ok (hv.fr G3)) fun w4 F4 => ?_))
 have H4 := F3.tr F4
 refine Stay.go (w := w1) (by repeat (first | exact Stay.nil | refine Stay.cons (by assumption) ?_)) H4 ?_
 refine callI_ok (vCheckS_ok (hv.fr (F1.tr H4))) fun w5 F5 => ite_yes (beq_self_eq_true _) ?_
 have H5 := H4.tr F5
 have B5 := B1.fr H5 (fun h => h)
 refine B5.ldW (B5.ldW (callI_ok (PSize_ok (hv.fr (F1.tr H5))) fun w6 F6 => ?_))
 have H6 := H5.tr F6
 refine Stay.go (w := w1) (by repeat (first | exact Stay.nil | refine Stay.cons (by assumption) ?_)) H6 ?_
 refine callI_ok (vSize_ok (size v) v (Nat.le_refl _) 2000 (by omega) (hv.fr (F1.tr H6))) fun w7 F7 => ?_
 have H7 := H6.tr F7
 refine Stay.go (w := w1) (by repeat (first | exact Stay.nil | refine Stay.cons (by assumption) ?_)) H7 ?_
 refine ite_yes (vsize_eq v) (callB_ok (hA (hg.frV (F1.tr H7))) fun w8 F8 => ?_)
 have H8 := H7.tr F8
 exact Stay.go (w := w1) (by repeat (first | exact Stay.nil | refine Stay.cons (by assumption) ?_)) H8 (hkj _ _ ⟨rfl, F1.tr H8⟩)
set_option maxHeartbeats 2000000 in
theorem ValueSorts_ok (hA : AwakeC) (hg : GlobV w) (hv : VaV w k z o n ns ps v) (hv2 : VaV w k2 z2 o2 n2 ns2 ps2 v2) :
  AnsB 4 #[vaArg k z o n ns ps, vaArg k2 z2 o2 n2 ns2 ps2] w true := by
 apply c4
 unfold t4 ld6mZ vaZ kf6Z nw6Z ca6Z caBZ caIZ jnBZ
 refine new_ok fun w1 m12 hm12 hs1 B1 F1 => new_ok fun w2 m13 hm13 hs2 C2 F2 => ?_
 have B2 := B1.fr F2 (fun h => h)
 change Blk w2 m12 _ (vaCells k z o n ns ps) at B2
 change Blk w2 m13 _ (vaCells k2 z2 o2 n2 ns2 ps2) at C2
 clear B1
 have F12 := F1.tr F2
 have fB := held6 B2
 have fC := held6 C2
 refine join1_ok (c := .bool) (fun (b : Bool) w' => b = false ∧ Fr noB w2 w') (fun kj hkj => drew_ok fun w3 F3 z3 => ?_) ?_
 ·have B3 := B2.fr F3 (fun h => h)
  refine B3.ldW (callI_ok (vCheckS_ok (hv.fr (F12.tr F3))) fun w4 F4 => ?_)
  have H4 := F3.tr F4
  refine ite_ok (fun h1 => ?_) fun h1 => hkj _ _ ⟨rfl, H4⟩
  have B4 := B2.fr H4 (fun h => h)
  refine B4.ldW (B4.ldW (callR_ok (PSort_ok (hv.fr (F12.tr H4))) fun k3 z3 o3 n3 ns3 ps3 w5 F5 hv3 => ?_))
  have H5 := H4.tr F5
  refine Stay.go (w := w2) (by repeat (first | exact Stay.nil | refine Stay.cons (by assumption) ?_)) H5 ?_
  refine callR_ok (vSort_ok (hv.fr (F12.tr H5))) fun k4 z4 o4 n4 ns4 ps4 w6 F6 hv4 => ?_
  have H6 := H5.tr F6
  refine Stay.go (w := w2) (by repeat (first | exact Stay.nil | refine Stay.cons (by assumption) ?_)) H6 ?_
  refine callB_ok (vequal_ok _ _ _ (Nat.le_refl _) (hv3.fr F6) hv4) fun w7 F7 => ?_
  have H7 := H6.tr F7
  refine Stay.go (w := w2) (by repeat (first | exact Stay.nil | refine Stay.cons (by assumption) ?_)) H7 ?_
  exact hkj _ _ ⟨by rw [eqS_refl]; rfl, H7⟩
 ·rintro b w3 ⟨rfl, H3⟩
  refine ite_no rfl ?_
  refine join1_ok (c := .bool) (fun (b : Bool) w' => b = true ∧ Fr noB w w') (fun kj hkj => drew_ok fun w4 F4 z4 => ?_) fun b w' ⟨hb, F⟩ => ⟨by rw [hb], F⟩
  have H4 := H3.tr F4
  have B4 := B2.fr H4 (fun h => h)
  have C4 := C2.fr H4 (fun h => h)
  refine B4.ldW (C4.ldW (B4.ldW (C4.ldW (callB_ok (PSame_ok (hv.fr (F12.tr H4)) (hv2.fr (F12.tr H4))) fun w5 F5 => ?_))))
  have H5 := H4.tr F5
  refine Stay.go (w := w2) (by repeat (first | exact Stay.nil | refine Stay.cons (by assumption) ?_)) H5 ?_
  refine callB_ok (vSame_ok (hv.fr (F12.tr H5)) (hv2.fr (F12.tr H5))) fun w6 F6 => ite_yes (beq_self_eq_true _) ?_
  have H6 := H5.tr F6
  refine callB_ok (hA (hg.frV (F12.tr H6))) fun w7 F7 => ?_
  have H7 := H6.tr F7
  exact Stay.go (w := w2) (by repeat (first | exact Stay.nil | refine Stay.cons (by assumption) ?_)) H7 (hkj _ _ ⟨rfl, F12.tr H7⟩)
end
section
variable {w : World} {v s : Shape} {k z : Int} {o n : ByteArray} {ns ps : Sl} {k2 : Int} {o2 n2 : ByteArray} {ns2 ps2 : Sl}
set_option maxHeartbeats 2000000 in
theorem ValueFits_ok (hA : AwakeC) (hg : GlobV w) (hv : VaV w k z o n ns ps v) (hv2 : ShV w k2 o2 n2 ns2 ps2 s) :
  AnsB 5 #[vaArg k z o n ns ps, shArg k2 o2 n2 ns2 ps2] w true := by
 apply c5
 unfold t5 shZ kfZ ld5mZ ld6mZ vaZ kf6Z nw6Z nw5Z caBZ jnBZ
 refine new_ok fun w1 m12 hm12 hs1 B1 F1 => new_ok fun w2 m13 hm13 hs2 C2 F2 => ?_
 have B2 := B1.fr F2 (fun h => h)
 change Blk w2 m12 _ (vaCells k z o n ns ps) at B2
 change Blk w2 m13 _ (shCells k2 o2 n2 ns2 ps2) at C2
 clear B1
 have F12 := F1.tr F2
 have fB := held6 B2
 have fC := held5 C2
 refine join1_ok (c := .bool) (fun (b : Bool) w' => b = true ∧ Fr noB w w') (fun kj hkj => drew_ok fun w4 H4 z4 => ?_) fun b w' ⟨hb, F⟩ => ⟨by rw [hb], F⟩
 have B4 := B2.fr H4 (fun h => h)
 have C4 := C2.fr H4 (fun h => h)
 refine B4.ldW (C4.ldV (B4.ldW (C4.ldV (callB_ok (PFits_ok (hv.fr (F12.tr H4)) (hv2.fr (F12.tr H4))) fun w5 F5 => ?_))))
 have H5 := H4.tr F5
 refine Stay.go (w := w2) (by repeat (first | exact Stay.nil | refine Stay.cons (by assumption) ?_)) H5 ?_
 refine callB_ok (vFits_ok (hv.fr (F12.tr H5)) (hv2.fr (F12.tr H5))) fun w6 F6 => ite_yes (beq_self_eq_true _) ?_
 have H6 := H5.tr F6
 refine callB_ok (hA (hg.frV (F12.tr H6))) fun w7 F7 => ?_
 have H7 := H6.tr F7
 exact Stay.go (w := w2) (by repeat (first | exact Stay.nil | refine Stay.cons (by assumption) ?_)) H7 (hkj _ _ ⟨rfl, F12.tr H7⟩)
set_option maxHeartbeats 4000000 in
theorem ValueTurned_ok (hA : AwakeC) (hg : GlobV w) (hv : VaV w k z o n ns ps v) (hv2 : ShV w k2 o2 n2 ns2 ps2 s) :
  AnsB 6 #[vaArg k z o n ns ps, shArg k2 o2 n2 ns2 ps2] w true := by
 apply c6
 unfold t6 shZ kfZ ld5mZ ld6mZ vaZ kf6Z st6Z nw6Z nz6Z ca6Z nw5Z caBZ caIZ jnBZ
 refine new_ok fun w1 m12 hm12 hs1 B1 F1 => new_ok fun w2 m13 hm13 hs2 C2 F2 => ?_
 have B2 := B1.fr F2 (fun h => h)
 change Blk w2 m12 _ (vaCells k z o n ns ps) at B2
 change Blk w2 m13 _ (shCells k2 o2 n2 ns2 ps2) at C2
 clear B1
 have F12 := F1.tr F2
 refine B2.ldW (callI_ok (PCheck_ok (hv.fr F12)) fun w3 F3 => ?_)
 have G3 := F12.tr F3
 have B3 := B2.fr F3 (fun h => h)
 have C3 := C2.fr F3 (fun h => h)
 refine ite_ok (fun h1 => ?_) fun h1 => ?_
 ·have h1 : vcheck v ≠ 0 := by
   intro e
   rw [e] at h1
   cases h1
  have hc : (vcheck v == 0) = false := by rw [beq_eq_false_iff_ne]; exact h1
  refine join1_ok (c := .bool) (fun (b : Bool) w' => b = true ∧ Fr noB w w') (fun kj hkj => ?_) fun b w' ⟨hb, F⟩ => ⟨by rw [hb], F⟩
  refine B3.ldW (B3.ldW (callB_ok (PSame_ok (hv.fr G3) (hv.fr G3)) fun w4 F4 => ite_yes ?_ ?_))
  ·show (!(vcheck v == 0 && vcheck v == 0 && eqS (sortS v) (sortS v))) = true
   rw [hc]
   rfl
  refine (B3.fr F4 (fun h => h)).ldW ((C3.fr F4 (fun h => h)).ldV (callB_ok (PFits_ok (hv.fr (G3.tr F4)) (hv2.fr (G3.tr F4))) fun w5 F5 => ite_yes ?_ ?_))
  ·show (!(vcheck v == 0 && check s == 0 && vfits v s)) = true
   rw [hc]
   rfl
  exact callB_ok (hA (hg.frV ((G3.tr F4).tr F5))) fun w6 F6 => hkj _ _ ⟨rfl, ((G3.tr F4).tr F5).tr F6⟩
 ·have h1 : vcheck v = 0 := by
   have h : (((vcheck v : Nat) : Int) != 0) = false := by simpa using h1
   simpa using h
  obtain ⟨za, da, fa⟩ := vcheck_ok.1 h1
  obtain ⟨htc, hts⟩ := same_turn h1
  have htz := turn_size (deep v) (Nat.le_refl (deep v))
  refine B3.ldW (callSortV_ok (turned_go (size v) v (Nat.le_refl _) za fa (hv.fr G3)) fun k3 z3 o3 n3 ns3 ps3 w4 F4 hs => ?_)
  refine new_ok fun w5 m60 hm60 hs5 D5 F5 => fill6_ok D5 rfl rfl rfl rfl rfl rfl rfl fun w6 D6 F6 => ?_
  change Blk w6 m60 _ (vaCells k3 z3 o3 n3 ns3 ps3) at D6
  have F46 : Fr noB w4 w6 := F5.fill (by omega) F6
  have hvt : VaV w6 k3 z3 o3 n3 ns3 ps3 (turn v) := hs w6 (F46.mono fun _ _ h => h.elim)
  have F36 := F4.tr F46
  have G6 := G3.tr F36
  have hv6 := hv.fr G6
  have hw6 := hv2.fr G6
  have hg6 := hg.frV G6
  have B6 := B3.fr F36 (fun h => h)
  have C6 := C3.fr F36 (fun h => h)
  have fB := held6 B6
  have fC := held5 C6
  have fD := held6 D6
  clear hv hv2 hg B3 C3 B2 C2 hs
  refine join1_ok (c := .bool) (fun (b : Bool) w' => b = true ∧ Fr noB w w') (fun kj hkj => drew_ok fun w7 H7 z7 => ?_) fun b w' ⟨hb, F⟩ => ⟨by rw [hb], F⟩
  refine (B6.fr H7 (fun h => h)).ldW ((D6.fr H7 (fun h => h)).ldW (callB_ok (PSame_ok (hv6.fr H7) (hvt.fr H7)) fun w8 F8 => ite_yes hts ?_))
  have H8 := H7.tr F8
  refine (B6.fr H8 (fun h => h)).ldW ((D6.fr H8 (fun h => h)).ldW (callR_ok (PSort_ok (hv6.fr H8)) fun k4 z4 o4 n4 ns4 ps4 w9 F9 hv4 => ?_))
  have H9 := H8.tr F9
  refine Stay.go (w := w6) (by repeat (first | exact Stay.nil | refine Stay.cons (by assumption) ?_)) H9 ?_
  refine callR_ok (PSort_ok (hvt.fr H9)) fun k5 z5 o5 n5 ns5 ps5 w10 F10 hv5 => ?_
  have H10 := H9.tr F10
  refine Stay.go (w := w6) (by repeat (first | exact Stay.nil | refine Stay.cons (by assumption) ?_)) H10 ?_
  refine callB_ok (vequal_ok _ _ _ (Nat.le_refl _) (hv4.fr F10) hv5) fun w11 F11 => ?_
  have H11 := H10.tr F11
  refine Stay.go (w := w6) (by repeat (first | exact Stay.nil | refine Stay.cons (by assumption) ?_)) H11 (ite_yes ?_ ?_)
  ·rw [if_pos h1, if_pos htc, sort_turn _ (Nat.le_refl _) fa]
   exact eqS_refl _
  refine (B6.fr H11 (fun h => h)).ldW ((C6.fr H11 (fun h => h)).ldV ((D6.fr H11 (fun h => h)).ldW ((C6.fr H11 (fun h => h)).ldV (callB_ok (PFits_ok (hv6.fr H11) (hw6.fr H11)) fun w12 F12 => ?_))))
  have H12 := H11.tr F12
  refine Stay.go (w := w6) (by repeat (first | exact Stay.nil | refine Stay.cons (by assumption) ?_)) H12 ?_
  refine callB_ok (PFits_ok (hvt.fr H12) (hw6.fr H12)) fun w13 F13 => ?_
  have H13 := H12.tr F13
  refine Stay.go (w := w6) (by repeat (first | exact Stay.nil | refine Stay.cons (by assumption) ?_)) H13 (ite_yes ?_ ?_)
  ·unfold isFits
   rw [h1, htc, ← vfitsF_vfits (f := deep v) (v := turn v) (by rw [htz.2]; exact Nat.le_refl _), fits_turn _ _ _ fa, vfitsF_vfits (Nat.le_refl _)]
   exact beq_self_eq_true _
  refine (B6.fr H13 (fun h => h)).ldW ((D6.fr H13 (fun h => h)).ldW (callI_ok (PSize_ok (hv6.fr H13)) fun w14 F14 => ?_))
  have H14 := H13.tr F14
  refine Stay.go (w := w6) (by repeat (first | exact Stay.nil | refine Stay.cons (by assumption) ?_)) H14 ?_
  refine callI_ok (PSize_ok (hvt.fr H14)) fun w15 F15 => ?_
  have H15 := H14.tr F15
  refine Stay.go (w := w6) (by repeat (first | exact Stay.nil | refine Stay.cons (by assumption) ?_)) H15 (ite_yes ?_ ?_)
  ·rw [htz.1]
   exact beq_self_eq_true _
  refine callB_ok (hA (hg6.frV H15)) fun w16 F16 => ?_
  have H16 := H15.tr F16
  exact Stay.go (w := w6) (by repeat (first | exact Stay.nil | refine Stay.cons (by assumption) ?_)) H16 (hkj _ _ ⟨rfl, G6.tr H16⟩)
end
end Go.Proofs.YtngfnokbdcjoeaaGreatDoor
end
section
namespace Go.Shp
open Go.Lex
mutual
def vtP (P : B → Prop) : Shape → Prop
 | .mk q _ t _ ps => (kOf q = 2 → P t) ∧ vtPs P ps
def vtPs (P : B → Prop) : List Shape → Prop
 | [] => True
 | s :: r => vtP P s ∧ vtPs P r
end
theorem vtPs_mem {P : B → Prop} : ∀ {l : List Shape}, vtPs P l → ∀ s ∈ l, vtP P s
 | [], _, s, h => by cases h
 | a :: r, h, s, hs => by
  rw [vtPs] at h
  rcases List.mem_cons.1 hs with rfl | hs
  ·exact h.1
  ·exact vtPs_mem h.2 s hs
theorem vquots_all : ∀ l : List Shape, vquots l = l.all vquot
 | [] => by rw [vquots]; rfl
 | s :: r => by rw [vquots, vquots_all r]; rfl
end Go.Shp
namespace Go.Proofs.YtngfnokbdcjoeaaGreatDoor
open Go.Lift Go.Lex Go.Shp
def QuotC (t : B) : Prop := ∀ {w : World} {x : ByteArray}, Glob w → bl x = t → Calls Tryz.prog 62 #[.string x] w fun e w' => ∃ r : ByteArray, e = .returned (.tuple #[.string r, .bool (show1 4 t).isSome]) ∧ (∀ q, show1 4 t = some q → bl r = q) ∧ Fr noB w w'
theorem resQuotable : (resOf Tryz.prog 37).isSome = true := by kernel_rfl
set_option maxHeartbeats 2000000 in
theorem quotable_ok : ∀ (d : Nat) (s : Shape), size s ≤ d → vtP QuotC s → ∀ {w : World} {k z : Int} {o n : ByteArray} {ns ps : Sl}, Glob w → VaV w k z o n ns ps s → AnsB 37 #[vaArg k z o n ns ps] w (vquot s)
 | 0, s, h, _, _, _, _, _, _, _, _, _, _ => by have := size_pos s; omega
 | d + 1, .mk q o' n' names parts, hd, hq, w, k, z, o, n, ns, ps, hg, hv => by
  rw [size_mk] at hd
  rw [vtP] at hq
  obtain ⟨ek, _, en, ⟨hz, _, _, hpn, hpl, _⟩, hps⟩ := hv.parts
  change q = vk k z at ek
  change bl n = n' at en
  change ps.n = parts.length at hpn
  change parts.length < 4611686018427387904 at hpl
  change VaL w ps.a 0 parts at hps
  have hk : kOf q = k := by rw [ek]; exact kOf_vk hz.1 hz.2
  apply c37
  unfold t37 tvZ svZ ldIZ ldSZ ldLZ nw6Z caBZ caZ jn0Z
  refine new_ok fun w1 m5 hm5 hs1 B1 F1 => ?_
  change Blk w1 m5 _ (vaCells k z o n ns ps) at B1
  have hf : vquot (.mk q o' n' names parts) = ((decide (kOf q ≠ 2) || (show1 4 n').isSome) && parts.all vquot) := by rw [vquot, vquots_all]
  refine B1.ld (c := .int .i64) (x := k) (o := 0) rfl ?_
  refine join0_ok (fun w' => (decide (kOf q ≠ 2) || (show1 4 n').isSome) = true ∧ Fr noB w1 w') (fun kj hkj => ite_ok (fun h => ?_) fun h => hkj _ ⟨?_, Fr.refl _ _⟩) fun w2 ⟨h, F2⟩ => ?_
  ·have h : k = 2 := by simpa using h
   refine B1.ld (c := .str) (x := n) (o := 3) rfl (call_ok (hq.1 (by omega) (hg.fr F1) en) ?_)
   rintro e w2 ⟨r, rfl, _, F2⟩
   refine ⟨((r, ()), ((_, ()), ())), rfl, ite_ok (fun hb => ⟨?_, F1.tr F2⟩) fun hb => hkj _ ⟨?_, F2⟩⟩
   ·have hb : (show1 4 n').isSome = false := by simpa using hb
    rw [hf, hb, hk, h]
    rfl
   ·have hb : (show1 4 n').isSome = true := by simpa using hb
    rw [hb, Bool.or_true]
  ·have h : k ≠ 2 := by simpa using h
   rw [decide_eq_true (by omega)]
   rfl
  ·refine (B1.fr F2 (fun h => h)).ldS (o := 5) rfl (callB_ok (everyV_ok (p := vquot) (hps.fr (F1.tr F2)) hpn hpl ⟨_, #[], rfl, resQuotable, fun w3 F3 k z o n ns ps s hv hs => ?_⟩) fun w4 F4 => ⟨by rw [hf, h]; rfl, (F1.tr F2).tr F4⟩)
   rw [Array.append_empty]
   have := size_mem hs
   exact quotable_ok d s (by omega) (vtPs_mem hq.2 s hs) ((hg.fr (F1.tr F2)).fr F3) hv
end Go.Proofs.YtngfnokbdcjoeaaGreatDoor
end
section
namespace Go.Proofs.YtngfnokbdcjoeaaGreatDoor
open Go.Lift
end Go.Proofs.YtngfnokbdcjoeaaGreatDoor
end
section
namespace Go.Proofs.YtngfnokbdcjoeaaGreatDoor
open Go.Lift
end Go.Proofs.YtngfnokbdcjoeaaGreatDoor
end
section
namespace Go.Lift
theorem Blk.cells {w : World} {m : Nat} {t : TypeId} {L : List Value} (B : Blk w m t L) {k : Nat} {v : Value} (h : L[k]? = some v) : w.cell? ⟨m, k, none⟩ = some v := B.cell h
end Go.Lift
namespace Go.Proofs.YtngfnokbdcjoeaaGreatDoor
open Go.Lift Go.Lex
def keys : List UInt8 := [10, 9, 34, 92]
structure Tab (base : Nat) (w : World) (m : Nat) (D : List UInt8) (L : List Value) : Prop where
 blk : Blk w m 250 L
 len : L.length = 257
 no : ∀ c : UInt8, c ∉ D → L[c.toNat]? = some (.slice none 0 0)
 yes : ∀ c : UInt8, c ∈ D → ∃ g cap, L[c.toNat]? = some (.slice (some ⟨g, 0, none⟩) 2 cap) ∧ (∃ cs fz, w.heap[g]? = some (.cells cs 5 fz)) ∧ ∀ j, j < 2 → w.cell? ⟨g, j, none⟩ = some (.int .u8 (((quoteB c).getD j 0).toNat : Int))
 list : ∃ l : Sl, L[256]? = some (.slice l.a l.n l.c) ∧ w.ownsRow base 9 1 (.slice l.a l.n l.c) D.length (D.map fun c => Value.string (bs [c]))
theorem Tab.frS {S : Nat → Prop} {w w' : World} {m : Nat} {D : List UInt8} {L : List Value} {base : Nat} (h : Tab base w m D L) (F : Fr S w w') (hm : ¬ S m) (hg : ∀ g cs fz, w.heap[g]? = some (.cells cs 5 fz) → ¬ S g) (hl : ∀ l : Sl, w.ownsRow base 9 1 (.slice l.a l.n l.c) D.length (D.map fun c => Value.string (bs [c])) → ∀ k, (Value.slice l.a l.n l.c).ownBlock = some k → ¬ S k) : Tab base w' m D L :=
 ⟨h.blk.fr F hm, h.len, h.no, fun c hc => by
  obtain ⟨g, cap, h1, ⟨cs, fz, h3⟩, h2⟩ := h.yes c hc
  have hng := hg g cs fz h3
  exact ⟨g, cap, h1, ⟨cs, fz, by rw [F.blk g (Array.getElem?_eq_some_iff.1 h3).1 hng]; exact h3⟩, fun j hj => F.cell (h2 j hj) hng⟩, by
  obtain ⟨l, h1, h2⟩ := h.list
  exact ⟨l, h1, own_fr h2 F (hl l h2)⟩⟩
theorem Tab.fr {w w' : World} {m : Nat} {D : List UInt8} {L : List Value} {base : Nat} (h : Tab base w m D L) (F : Fr noB w w') : Tab base w' m D L := h.frS F (fun h => h) (fun _ _ _ _ h => h) fun _ _ _ _ h => h
theorem uStrs : Tryz.prog.underlying 22 = some (.slice 9) := by kernel_rfl
theorem rStr : rowSays Tryz.prog 9 1 16 #[.string ⟨#[]⟩] := rowSays_of (by kernel_rfl)
section
variable {w : World}
end
end Go.Proofs.YtngfnokbdcjoeaaGreatDoor
end
section
namespace Go.Lift
theorem join2_ok {c d : CT} {x : (c.T → d.T → G) → G} {k : c.T → d.T → G} {R : Ending → World → Prop} {w : World} (M : c.T → d.T → World → Prop) (hx : ∀ kj : c.T → d.T → G, (∀ y z w', M y z w' → kj y z R w') → x kj R w) (hk : ∀ y z w', M y z w' → k y z R w') : joinG [.one c, .one d] x k R w := hx k hk
end Go.Lift
namespace Go.Proofs.YtngfnokbdcjoeaaGreatDoor
open Go.Lift Go.Lex
section
variable {w : World} {m base : Nat} {L : List Value}
theorem Tab.at (T : Tab base w m kset L) (c : UInt8) : (isKey c = true ∧ ∃ g cap, L[c.toNat]? = some (.slice (some ⟨g, 0, none⟩) 2 cap) ∧ ∀ j, j < 2 → w.cell? ⟨g, j, none⟩ = some (.int .u8 (((quoteB c).getD j 0).toNat : Int))) ∨ (isKey c = false ∧ L[c.toNat]? = some (.slice none 0 0)) := by
 cases h : isKey c with
 | true =>
  obtain ⟨g, cap, h1, _, h2⟩ := T.yes c (List.contains_iff_mem.1 h)
  exact .inl ⟨rfl, g, cap, h1, h2⟩
 | false => exact .inr ⟨rfl, T.no c fun hc => by rw [isKey, List.contains_iff_mem.2 hc] at h; cases h⟩
end
end Go.Proofs.YtngfnokbdcjoeaaGreatDoor
end
section
namespace Go.Lift
end Go.Lift
namespace Go.Proofs.YtngfnokbdcjoeaaGreatDoor
open Go.Lift Go.Lex
section
variable {w : World}
end
end Go.Proofs.YtngfnokbdcjoeaaGreatDoor
end
section
namespace Go.Proofs.YtngfnokbdcjoeaaGreatDoor
open Go.Lift Go.Lex
section
variable {w : World}
end
end Go.Proofs.YtngfnokbdcjoeaaGreatDoor
end
section
namespace Go.Proofs.YtngfnokbdcjoeaaGreatDoor
open Go.Lift Go.Lex
section
variable {w : World}
end
end Go.Proofs.YtngfnokbdcjoeaaGreatDoor
end
