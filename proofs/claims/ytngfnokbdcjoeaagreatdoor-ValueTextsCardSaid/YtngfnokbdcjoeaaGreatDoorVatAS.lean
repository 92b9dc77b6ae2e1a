/- The law behind: one part of its proof (joined by program out of my own texts). No condition. -/
import Derived.Test.YtngfnokbdcjoeaaGreatDoorVatAR
section
namespace Go.Lift
open Go.Sort
section
variable {α : Type} [Inhabited α]
theorem blk_sorted {enc : α → Value} {w : World} {b : Nat} {T : TypeId} {d d' : Array α} (B : Blk w b T (d.toList.map enc)) (hs : d'.size = d.size) (n : Nat) (os : Array Obj) :
  Blk (Go.Proofs.sortWorld enc w b 0 n d' os) b T (d'.toList.map enc) ∧ Fr (oneB b) w (Go.Proofs.sortWorld enc w b 0 n d' os) := by
 have hl := B.lt
 have hh : ∀ k : Nat, (Go.Proofs.sortWorld enc w b 0 n d' os).heap[k]? = ((w.heap.modify b (onCells (putCells enc 0 d'))) ++ os)[k]? := fun k => rfl
 constructor
 ·unfold Blk at B ⊢
  rw [hh, Array.getElem?_append_left (by rw [Array.size_modify]; exact hl), Array.getElem?_modify, if_pos rfl, B]
  simp only [Option.map_some, onCells, Option.some.injEq]
  congr 1
  apply Array.ext
  ·simp [putCells, hs]
  ·intro i h1 h2
   simp only [putCells, Array.getElem_mapIdx, Nat.zero_add, Nat.zero_le, true_and, Nat.sub_zero]
   have : i < d'.size := by simpa using h2
   rw [if_pos this]
   simp [this]
 ·refine ⟨rfl, rfl, ?_, fun k hk hn => ?_⟩
  ·show w.heap.size ≤ ((w.heap.modify b (onCells (putCells enc 0 d'))) ++ os).size
   rw [Array.size_append, Array.size_modify]
   omega
  ·rw [hh, Array.getElem?_append_left (by rw [Array.size_modify]; exact hk), Array.getElem?_modify, if_neg (fun e => hn e.symm)]
theorem holds_blk {enc : α → Value} {w : World} {b : Nat} {T : TypeId} {d : Array α} (B : Blk w b T (d.toList.map enc)) : Holds enc w b 0 d := fun j hj => by
 rw [Nat.zero_add]
 refine ⟨B.cell ?_, B.frozen j⟩
 rw [List.getElem?_map, Array.getElem?_toList, Array.getElem?_eq_getElem hj]
 simp [hj]
end
end Go.Lift
namespace Go.Proofs.YtngfnokbdcjoeaaGreatDoor
open Go.Lift Go.Lex Go.Shp Go.Sort
def cfN (names : List B) (i j : Fin names.length) : Int := Lib.compareBytes names[i.1] names[j.1]
theorem ltN {names : List B} (i j : Fin names.length) : ltOf (cfN names) i j = ltB names[i.1] names[j.1] := rfl
theorem swoN (names : List B) : SWO (ltOf (cfN names)) where
 irrefl x := by rw [ltN]; exact ltB_irr _
 trans x y z h1 h2 := by rw [ltN] at *; exact ltB_trans h1 h2
 ntrans x y z h1 h2 := by
  rw [ltN] at *
  rw [Bool.eq_false_iff]
  intro h
  by_cases e : names[x.1] = names[y.1]
  ·rw [e, h2] at h
   cases h
  ·have h3 := ltB_tri e h1
   have h4 := ltB_trans h3 h
   rw [h2] at h4
   cases h4
end Go.Proofs.YtngfnokbdcjoeaaGreatDoor
end
section
namespace Go.Shp
open Go.Lex
theorem fm_eq {α : Type} {f : Nat → Option α} : ∀ {ix : List Nat} {M : List α}, M.length = ix.length → (∀ (t i : Nat), ix[t]? = some i → f i = M[t]?) → ix.filterMap f = M
 | [], [], _, _ => rfl
 | [], _ :: _, h, _ => by simp at h
 | _ :: _, [], h, _ => by simp at h
 | i :: ix, x :: M, h, hf => by
  have h0 := hf 0 i rfl
  rw [List.getElem?_cons_zero] at h0
  rw [List.filterMap_cons, h0]
  simp only [List.cons.injEq, true_and]
  exact fm_eq (by simpa using h) fun t j hj => by have := hf (t + 1) j (by simpa using hj); simpa using this
theorem order_pairs {nsA : List B} {psA : List Shape} {ix : List Nat} {N : List B} {Q : List Shape} (hl : nsA.length = psA.length) (hnd : nsA.Nodup) (hp : ix.Perm (List.range psA.length)) (hs : ix.Pairwise fun i j => ∀ x y, nsA[i]? = some x → nsA[j]? = some y → ltB y x = false)
  (hN : N.length = psA.length) (hQ : Q.length = psA.length) (h1 : ∀ t i : Nat, ix[t]? = some i → N[t]? = nsA[i]?) (h2 : ∀ t i : Nat, ix[t]? = some i → Q[t]? = (psA.map sortS)[i]?) : N.zip Q = pairs nsA psA := by
 have hil : ix.length = psA.length := by rw [hp.length_eq, List.length_range]
 have hz : ∀ t i : Nat, ix[t]? = some i → (nsA.zip (psA.map sortS))[i]? = (N.zip Q)[t]? := by
  intro t i hi
  rw [List.zip_eq_zipWith, List.zip_eq_zipWith, List.getElem?_zipWith, List.getElem?_zipWith, h1 t i hi, h2 t i hi]
 have hM : ix.filterMap (fun i => (nsA.zip (psA.map sortS))[i]?) = N.zip Q := fm_eq (by rw [List.length_zip]; omega) hz
 have hR : (List.range psA.length).filterMap (fun i => (nsA.zip (psA.map sortS))[i]?) = nsA.zip (psA.map sortS) := fm_eq (by rw [List.length_zip, List.length_map, List.length_range]; omega) fun t i hi => by
  have := (List.getElem?_eq_some_iff.1 hi)
  obtain ⟨q1, q2⟩ := this
  rw [List.getElem_range] at q2
  rw [q2]
 refine up_sortP (l := nsA.zip (psA.map sortS)) ?_ ?_ ?_
 ·rw [List.map_fst_zip (by rw [List.length_map]; omega)]
  exact hnd
 ·unfold Up
  rw [List.pairwise_iff_getElem]
  intro s t hs1 ht1 hst
  rw [List.length_zip] at hs1 ht1
  rw [List.getElem_zip, List.getElem_zip]
  have es : ix[s]? = some ix[s] := List.getElem?_eq_getElem _
  have et : ix[t]? = some ix[t] := List.getElem?_eq_getElem _
  have a1 := h1 s _ es
  have a2 := h1 t _ et
  rw [List.getElem?_eq_getElem (by omega)] at a1 a2
  have hp2 := List.pairwise_iff_getElem.1 hs s t (by omega) (by omega) hst _ _ a1.symm a2.symm
  have hne : N[t]'(by omega) ≠ N[s]'(by omega) := by
   intro e
   obtain ⟨q1, q2⟩ := List.getElem?_eq_some_iff.1 a1.symm
   obtain ⟨q3, q4⟩ := List.getElem?_eq_some_iff.1 a2.symm
   have hx : ix[s] = ix[t] := (List.getElem_inj (xs := nsA) hnd).1 (by rw [q2, q4, e])
   have hnix : ix.Nodup := hp.nodup_iff.2 List.nodup_range
   have := (List.getElem_inj (xs := ix) hnix).1 hx
   omega
  exact ltB_tri hne hp2
 ·rw [← hM]
  have := hp.filterMap (fun i => (nsA.zip (psA.map sortS))[i]?)
  rw [hR] at this
  exact this
end Go.Shp
namespace Go.Proofs.YtngfnokbdcjoeaaGreatDoor
open Go.Lift Go.Lex Go.Shp
end Go.Proofs.YtngfnokbdcjoeaaGreatDoor
end
section
namespace Go.Lift
open Go.Shp Go.Lex
abbrev WV := Int × Int × ByteArray × ByteArray × Sl × Sl
def wvCells (v : WV) : List Value := vaCells v.1 v.2.1 v.2.2.1 v.2.2.2.1 v.2.2.2.2.1 v.2.2.2.2.2
def VaT (w : World) (v : WV) (s : Shape) : Prop := VaV w v.1 v.2.1 v.2.2.1 v.2.2.2.1 v.2.2.2.2.1 v.2.2.2.2.2 s
theorem wv_one {V : List WV} : ∀ u ∈ V.flatMap wvCells, u.oneCell' = true := by
 intro u hu
 obtain ⟨v, _, hv⟩ := List.mem_flatMap.1 hu
 simp only [wvCells, vaCells, List.mem_cons, List.not_mem_nil, or_false] at hv
 rcases hv with rfl | rfl | rfl | rfl | rfl | rfl <;> rfl
def SV (w : World) (S : Nat → Prop) (V : List WV) (Q : List Shape) : Prop := V.length = Q.length ∧ ∀ (j : Nat) v q, V[j]? = some v → Q[j]? = some q → ∀ w', Fr S w w' → VaT w' v q
theorem SV.go {w w' : World} {S S' : Nat → Prop} {V : List WV} {Q : List Shape} (h : SV w S V Q) (F : Fr S w w') (hs : ∀ x, x < w.heap.size → S' x → S x) : SV w' S' V Q :=
 ⟨h.1, fun j v q hv hq w'' F2 => h.2 j v q hv hq w'' (F.then F2 hs)⟩
theorem vaL_of {w : World} {a : Option Addr} : ∀ {Q : List Shape} {i : Nat}, (∀ (j : Nat) s, Q[j]? = some s → ∃ (g off : Nat) (k z : Int) (o n : ByteArray) (ns ps : Sl), a = some ⟨g, off, none⟩ ∧ w.cell? ⟨g, off + (i + j) * 6, none⟩ = some (.int .i64 k) ∧ w.cell? ⟨g, off + (i + j) * 6 + 1, none⟩ = some (.int .i64 z) ∧ w.cell? ⟨g, off + (i + j) * 6 + 2, none⟩ = some (.string o) ∧ w.cell? ⟨g, off + (i + j) * 6 + 3, none⟩ = some (.string n) ∧
   w.cell? ⟨g, off + (i + j) * 6 + 4, none⟩ = some (.slice ns.a ns.n ns.c) ∧ w.cell? ⟨g, off + (i + j) * 6 + 5, none⟩ = some (.slice ps.a ps.n ps.c) ∧ VaV w k z o n ns ps s) → VaL w a i Q
 | [], i, _ => by unfold VaL; trivial
 | s :: r, i, h => by
  unfold VaL
  refine ⟨?_, vaL_of fun j x hx => ?_⟩
  ·have := h 0 s rfl
   rwa [Nat.add_zero] at this
  ·have := h (j + 1) x (by simpa using hx)
   rwa [show i + (j + 1) = i + 1 + j by omega] at this
theorem vaL_own {w : World} {e : TypeId} {l : Sl} {V : List WV} {Q : List Shape} (h : w.ownsRow 0 e 6 (.slice l.a l.n l.c) V.length (V.flatMap wvCells)) (hl : V.length = Q.length) (hs : ∀ (j : Nat) v q, V[j]? = some v → Q[j]? = some q → VaT w v q) : l.n = Q.length ∧ VaL w l.a 0 Q := by
 obtain ⟨s', hv, hn, _⟩ := slice_of_own h
 simp only [Value.slice.injEq] at hv
 refine ⟨by rw [hv.2.1, hn, hl], vaL_of fun j s hj => ?_⟩
 have hjl := (List.getElem?_eq_some_iff.1 hj).1
 obtain ⟨v, hv2⟩ : ∃ v, V[j]? = some v := ⟨_, List.getElem?_eq_getElem (by omega)⟩
 have hown := h.2
 rcases hown with ⟨h1, h2⟩ | ⟨g, cap, cur, h1, _, hg, _⟩
 ·omega
 ·simp only [Value.slice.injEq] at h1
  have hc := h.cells (g := g) (by rw [h1.1]; rfl)
  have at' : ∀ c u, c < 6 → (wvCells v)[c]? = some u → w.cell? ⟨g, 0 + (0 + j) * 6 + c, none⟩ = some u := fun c u hc5 hu => by
   have := hc (j * 6 + c) u (by rw [flat_at wvCells 6 (fun _ _ => rfl) hv2 c hc5]; exact hu)
   rw [Addr.add_lit] at this
   rw [Nat.zero_add, Nat.zero_add]
   simpa using this
  obtain ⟨k, z, o, n, ns, ps⟩ := v
  refine ⟨g, 0, k, z, o, n, ns, ps, h1.1, at' 0 _ (by omega) rfl, at' 1 _ (by omega) rfl, at' 2 _ (by omega) rfl, at' 3 _ (by omega) rfl, at' 4 _ (by omega) rfl, at' 5 _ (by omega) rfl, hs j _ s hv2 hj⟩
end Go.Lift
namespace Go.Proofs.YtngfnokbdcjoeaaGreatDoor
open Go.Lift Go.Lex Go.Shp Go.Sort
theorem infoVal : infoSays Tryz.prog 25 6 96 6 := infoSays_of (by kernel_rfl)
theorem uVals : Tryz.prog.underlying 23 = some (.slice 25) := by kernel_rfl
def SortV (w : World) (s : Shape) (e : Ending) (w' : World) : Prop := ∃ (k z : Int) (o n : ByteArray) (ns ps : Sl), e = .returned (vaArg k z o n ns ps) ∧ Fr noB w w' ∧ ∀ w'', Fr (fun b => b < w.heap.size) w' w'' → VaV w'' k z o n ns ps s
theorem callSortV_ok {w : World} {R : Ending → World → Prop} {f : FuncId} {args : Array Value} {s : Shape} (hc : Calls Tryz.prog f args w (SortV w s)) {K : Int → Int → ByteArray → ByteArray → Sl → Sl → G}
  (h : ∀ k z o n ns ps w', Fr noB w w' → (∀ w'', Fr (fun b => b < w.heap.size) w' w'' → VaV w'' k z o n ns ps s) → K k z o n ns ps R w') : callG Tryz.prog f args [.agg [.int .i64, .int .i64, .str, .str, .slice, .slice]] K R w :=
 call_ok hc fun _ w' ⟨k, z, o, n, ns, ps, he, F, hv⟩ => ⟨((k, z, o, n, ns, ps, ()), ()), he, h k z o n ns ps w' F hv⟩
theorem vsortCl_ok {w : World} {m5 : Nat} {T : TypeId} {k z : Int} {o n : ByteArray} {ns ps : Sl} {names : List B} {i j : Nat} {x y : B} (B5 : Blk w m5 T (vaCells k z o n ns ps)) (hns : RdS w ns (names.map bs)) (hi : names[i]? = some x) (hj : names[j]? = some y) :
  Calls Tryz.prog 49 #[.int .i64 (i : Int), .int .i64 (j : Int), .pointer (some ⟨m5, 0, none⟩)] w fun e w' => e = .returned (.int .i64 (Lib.compareBytes x y)) ∧ w' = w.drew := by
 apply c49
 unfold t49 ivZ tvZ svZ ldSZ ldLZ caIZ ixZ
 have F := fr_drew w
 have B6 := B5.fr F fun h => h
 have f1 : Held w.drew (⟨m5, 4, none⟩, [.slice ns.a ns.n ns.c]) := B6.held1 rfl
 change ldG _ _ _ _ w.drew
 refine B6.ldS (o := 4) rfl (str_ld (hns.fr F) hi (B6.ldS (o := 4) rfl (str_ld (hns.fr F) hj ?_)))
 refine call_ok (Tryz.strings_Compare (bs x) (bs y) w.drew) ?_
 rintro e w' ⟨rfl, rfl⟩
 refine ⟨((_, ()), ()), rfl, keep_cons f1 (keep_cons f1 (keep_nil ⟨?_, rfl⟩))⟩
 rw [show (bs x).data.toList = bl (bs x) from rfl, show (bs y).data.toList = bl (bs y) from rfl, bl_bs, bl_bs]
theorem vsortIdx_ok {w0 w : World} {m5 b : Nat} {T U : TypeId} {k z : Int} {o n : ByteArray} {ns ps : Sl} {names : List B} (hpos : 0 < names.length) (hle : names.length ≤ 2000) (B5 : Blk w m5 T (vaCells k z o n ns ps)) (hns : RdS w0 ns (names.map bs)) (F0 : Fr noB w0 w) (hb : w0.heap.size ≤ b) (h5 : m5 ≠ b)
  (Bx : Blk w b U ((List.range names.length).map fun i : Nat => Value.int .i64 (i : Int))) :
  Calls Tryz.prog 48 #[.slice (some ⟨b, 0, none⟩) names.length names.length, .func (.func 49) #[] #[.pointer (some ⟨m5, 0, none⟩)]] w fun e w' => e = .returned (.tuple #[]) ∧ ∃ ix : List Nat, ix.Perm (List.range names.length) ∧
   (ix.Pairwise fun i j => ∀ x y, names[i]? = some x → names[j]? = some y → ltB y x = false) ∧ Blk w' b U (ix.map fun i : Nat => Value.int .i64 (i : Int)) ∧ Fr (oneB b) w w' := by
 letI : Inhabited (Fin names.length) := ⟨⟨0, hpos⟩⟩
 have hd : (Array.finRange names.length).toList.map (fun i : Fin names.length => Value.int .i64 ((i.1 : Nat) : Int)) = (List.range names.length).map fun i : Nat => Value.int .i64 (i : Int) := by
  apply List.ext_getElem
  ·simp
  ·intro i h1 h2
   simp
 have Bx' : Blk w b U ((Array.finRange names.length).toList.map fun i : Fin names.length => Value.int .i64 ((i.1 : Nat) : Int)) := by rw [hd]; exact Bx
 have hsz : (Array.finRange names.length).size = names.length := by simp
 have hcon := Tryz.slices_SortFunc (fun i : Fin names.length => Value.int .i64 ((i.1 : Nat) : Int)) (fun _ => rfl) (cfN names) (swoN names) 49 #[.pointer (some ⟨m5, 0, none⟩)] b 0 names.length (Array.finRange names.length) w
  (enters_of Tryz.func49 (by kernel_rfl) rfl) (fun m os dk hdk x y => ?_) (holds_blk Bx') Bx.lt (by omega)
 ·rw [hsz] at hcon
  refine hcon.mono ?_
  rintro e w' ⟨rfl, d', q, os, hp, hs, rfl⟩
  have hsz' : d'.size = (Array.finRange names.length).size := hp.1
  obtain ⟨g1, g2⟩ := blk_sorted Bx' hsz' q os
  refine ⟨rfl, d'.toList.map (·.1), ?_, ?_, ?_, g2⟩
  ·have := hp.2.2
   rw [Array.extract_eq_self_of_le (by omega), Array.extract_eq_self_of_le (by omega)] at this
   have h2 := this.map (fun i : Fin names.length => i.1)
   refine h2.trans (List.Perm.of_eq ?_)
   apply List.ext_getElem
   ·simp
   ·intro i h1 h2
    simp
  ·rw [List.pairwise_map, List.pairwise_iff_getElem]
   intro i j hi hj hij x y hx hy
   have := hs i j (Nat.zero_le _) hij (by simp at hj; omega)
   rw [ltN] at this
   have e1 : d'[i]! = d'.toList[i] := by simp at hi; simp [hi]
   have e2 : d'[j]! = d'.toList[j] := by simp at hj; simp [hj]
   rw [e1, e2] at this
   rw [List.getElem?_eq_getElem (d'.toList[i]).2, Option.some.injEq] at hx
   rw [List.getElem?_eq_getElem (d'.toList[j]).2, Option.some.injEq] at hy
   rw [← hx, ← hy]
   exact this
  ·rw [List.map_map]
   exact g1
 ·obtain ⟨_, g2⟩ := blk_sorted Bx' (d' := dk) hdk m os
  have F1 : Fr noB w0 (Go.Proofs.sortWorld (fun i : Fin names.length => Value.int .i64 ((i.1 : Nat) : Int)) w b 0 m dk os) := F0.then g2 fun z hz h => by unfold oneB at h; omega
  have := vsortCl_ok (B5.fr g2 (by unfold oneB; exact h5)) (hns.fr F1) (List.getElem?_eq_getElem x.2) (List.getElem?_eq_getElem y.2)
  refine this.mono ?_
  rintro e w' ⟨rfl, rfl⟩
  exact ⟨rfl, 1, #[], by rw [grow_empty]; rfl⟩
structure QInv (w : World) (m5 m6 mi mat : Nat) (ix : List Nat) (k z : Int) (o n : ByteArray) (ns ps : Sl) (names : List B) (parts : List Shape) (lN lP : Sl) (N : List B) (V : List WV) (Q : List Shape) (jN jP : Nat) (wi : World) : Prop where
 b5 : Blk wi m5 25 (vaCells k z o n ns ps)
 b6 : ∃ l, Blk wi m6 25 l ∧ l.length = 6
 b10 : Blk wi mat 25 (vaCells k z o n lN lP)
 bat : Blk wi mi 3 (ix.map fun i : Nat => Value.int .i64 (i : Int))
 fr : Fr noB w wi
 ownN : wi.ownsRow 0 9 1 (.slice lN.a lN.n lN.c) N.length (N.map fun x => .string (bs x))
 ownP : wi.ownsRow 0 25 6 (.slice lP.a lP.n lP.c) V.length (V.flatMap wvCells)
 belN : ∀ a, lN.a = some a → mat < a.block ∧ a.block < wi.heap.size
 belP : ∀ a, lP.a = some a → mat < a.block ∧ a.block < wi.heap.size
 apart : ∀ a c, lN.a = some a → lP.a = some c → a.block ≠ c.block
 sp : SV wi (fun b => b ≤ mat ∨ (∃ a, lN.a = some a ∧ a.block = b) ∨ (∃ a, lP.a = some a ∧ a.block = b)) V Q
 nil : names = [] → lN.a = none ∧ N = []
 lenN : names ≠ [] → N.length = jN
 atN : names ≠ [] → ∀ t i : Nat, t < jN → ix[t]? = some i → N[t]? = names[i]?
 lenQ : Q.length = jP
 atQ : ∀ t i : Nat, t < jP → ix[t]? = some i → Q[t]? = (parts.map sortS)[i]?
set_option maxHeartbeats 4000000 in
theorem psorted_go : ∀ (d : Nat) (s : Shape), size s ≤ d → size s ≤ 2000 → formed s = true → ∀ {w : World} {k z : Int} {o n : ByteArray} {ns ps : Sl}, VaV w k z o n ns ps s → Calls Tryz.prog 30 #[vaArg k z o n ns ps] w (SortV w (sortS s))
 | 0, s, h, _, _, _, _, _, _, _, _, _, _ => by have := size_pos s; omega
 | d + 1, .mk kA oA nA nsA psA, hd, hd2, hfit, w, k, z, o, n, ns, ps, hv => by
  rw [size_mk] at hd hd2
  obtain ⟨fa, hfa⟩ := formed_parts hfit
  obtain ⟨ek, eo, en, ⟨hz, hns, hnl, hpn, hpl, hos, hnz, hxl⟩, hps⟩ := hv.parts
  change kA = vk k z at ek
  change bl o = oA at eo
  change bl n = nA at en
  change RdS w ns (nsA.map bs) at hns
  change nsA.length * 16 ≤ 140737488351232 at hnl
  change ps.n = psA.length at hpn
  change psA.length < 4611686018427387904 at hpl
  change ∀ x ∈ nsA, x.length < 4611686018427387904 at hxl
  change VaL w ps.a 0 psA at hps
  have hnn := hns.1
  rw [List.length_map] at hnn
  have hplen : psA.length ≤ 2000 := by have := sizes_len psA; omega
  have hnames : nsA ≠ [] → nsA.length = psA.length ∧ nsA.Nodup := fun h => vform_len fa h
  obtain ⟨iS, zS, hiS, hzS, s1, s2, s3⟩ := infoStr
  obtain ⟨iP, zP, hiP, hzP, p1, p2, p3⟩ := infoVal
  have uInts : Tryz.prog.underlying 62 = some (.slice 3) := by kernel_rfl
  obtain ⟨iI, hiI, hzI, i1, i2⟩ : ∃ i, Tryz.prog.info? 3 = some i ∧ i.zero = some (.int .i64 0) ∧ i.size = 1 ∧ i.bytes = 8 := by
   have h : (Tryz.prog.info? 3).map (fun i => (i.zero, i.size, i.bytes)) = some (some (.int .i64 0), 1, 8) := by kernel_rfl
   cases hi : Tryz.prog.info? 3 with
   | none => rw [hi] at h; cases h
   | some i =>
    rw [hi] at h
    simp only [Option.map_some, Option.some.injEq, Prod.mk.injEq] at h
    exact ⟨i, rfl, h.1, h.2.1, h.2.2⟩
  apply c30
  unfold t30 wrZ ivZ tvZ svZ ldIZ ldSZ ldLZ ld6mZ ld6xZ vaZ st6Z nw6Z nz6Z ca6Z nwZ ca0Z jn0Z lpIZ ixZ
  refine new_ok fun w1 m5 hm5 hs1 B1 F1 => new_ok fun w2 m6 hm6 hs2 C2 F2 => ?_
  have B2 := B1.fr F2 (fun h => h)
  change Blk w2 m5 _ (vaCells k z o n ns ps) at B2
  clear B1
  have G2 := F1.tr F2
  refine B2.ldS (o := 5) rfl (make_ok (l := (ps.n : Int)) (c := (ps.n : Int)) uInts hiI hzI (by omega) (Int.le_refl _) (by rw [i2]; omega) (by omega) fun w5 mi hmi hs5 E5 F5 => ?_)
  simp only [Int.toNat_natCast] at E5 ⊢
  have B5 := B2.fr F5 (fun h => h)
  have C5 := C2.fr F5 (fun h => h)
  have G5 := G2.tr F5
  have hm6l := C2.lt
  refine join0_ok (fun w' => Blk w' mi 3 ((List.range psA.length).map fun i : Nat => Value.int .i64 (i : Int)) ∧ Fr (oneB mi) w5 w') (fun kj hkj => ?_) ?_
  ·refine countL_ok psA.length (by omega) (fun i w' => (∃ row, Blk w' mi 3 row ∧ row.length = psA.length ∧ ∀ j, j < i → row[j]? = some (.int .i64 (j : Int))) ∧ Fr (oneB mi) w5 w') (fun rec i wi hi hI hrec => ?_) ⟨⟨_, E5, by simp [madeCells, i1, hpn], fun j h => by omega⟩, Fr.refl _ _⟩
   obtain ⟨⟨row, Ei, hrl, hat⟩, Fi⟩ := hI
   refine ite_ok (fun hlt => ?_) fun hge => hkj _ ⟨?_, Fi⟩
   ·have hlt : (i : Int) < ((ps.n : Nat) : Int) := of_decide_eq_true hlt
    refine join_in (vs := []) (idxB_ok (n := ps.n) (i := i) (by omega) ?_)
    rw [Nat.zero_add, Nat.mul_one]
    refine Ei.st rfl (by omega) fun w' E' F' => hrec (by omega) _ ⟨⟨_, E', by rw [List.length_set]; exact hrl, fun j hj => ?_⟩, st_fr Fi F'⟩
    rcases Nat.lt_succ_iff_lt_or_eq.1 hj with hj | rfl
    ·rw [List.getElem?_set_ne (by omega)]
     exact hat j hj
    ·rw [List.getElem?_set_self (by omega)]
   ·have hge : ¬ (i : Int) < ((ps.n : Nat) : Int) := of_decide_eq_false hge
    have : row = (List.range psA.length).map fun i : Nat => Value.int .i64 (i : Int) := by
     apply List.ext_getElem?
     intro j
     by_cases hj : j < psA.length
     ·rw [hat j (by omega), List.getElem?_map, List.getElem?_range hj]
      rfl
     ·rw [List.getElem?_eq_none (by omega), List.getElem?_eq_none (by simp; omega)]
    rw [← this]
    exact Ei
  rintro w6 ⟨E6, F6⟩
  have B6 := B5.fr F6 (by unfold oneB; have := B5.lt; omega)
  have C6 := C5.fr F6 (by unfold oneB; have := C5.lt; omega)
  have hmw : w.heap.size ≤ mi := by have := G2.size; omega
  have G6 : Fr noB w w6 := G5.then F6 fun x hx h => by unfold oneB at h; omega
  refine B6.ldS (o := 4) rfl ?_
  have hm56 : m5 < m6 := by omega
  have hm6i : m6 < mi := by omega
  refine join0_ok (fun w' => ∃ ix : List Nat, ix.Perm (List.range psA.length) ∧ (nsA = [] → ix = List.range psA.length) ∧ (nsA ≠ [] → ix.Pairwise fun i j => ∀ x y, nsA[i]? = some x → nsA[j]? = some y → ltB y x = false) ∧ Blk w' mi 3 (ix.map fun i : Nat => Value.int .i64 (i : Int)) ∧ Fr (oneB mi) w6 w') (fun kj hkj => ite_ok (fun hpos => ?_) fun hz => hkj _ ⟨_, List.Perm.refl _, fun _ => rfl, fun h => ?_, E6, Fr.refl _ _⟩) ?_
  ·have hpos : ((ns.n : Nat) : Int) > 0 := of_decide_eq_true hpos
   have hne : nsA ≠ [] := by rintro rfl; simp at hnn; omega
   obtain ⟨hln, hnd⟩ := hnames hne
   have hs := vsortIdx_ok (names := nsA) (by omega) (by omega) B6 hns G6 hmw (by omega) (by rw [hln]; exact E6)
   rw [hln] at hs
   rw [hpn]
   refine call_ok hs ?_
   rintro e w7 ⟨rfl, ix, q1, q2, q3, q4⟩
   exact ⟨(), rfl, hkj _ ⟨ix, q1, fun h => absurd h hne, fun _ => q2, q3, q4⟩⟩
  ·have hz : ¬ ((ns.n : Nat) : Int) > 0 := of_decide_eq_false hz
   exact absurd (List.eq_nil_of_length_eq_zero (by omega)) h
  rintro w7 ⟨ix, hperm, hix0, hix1, E7, F7⟩
  have hixl : ix.length = psA.length := by rw [hperm.length_eq, List.length_range]
  have B7 := B6.fr F7 (by unfold oneB; omega)
  have C7 := C6.fr F7 (by unfold oneB; omega)
  have G7 : Fr noB w w7 := G6.then F7 fun x hx h => by unfold oneB at h; omega
  have hml := E7.lt
  refine B7.ldW (new_ok fun w7a mat hmat hsat D7 F7a => fill6_ok D7 rfl rfl rfl rfl rfl rfl rfl fun w7b D7b F7b => D7b.st (o := 4) rfl (by simp) fun w7c D7c F7c => D7c.st (o := 5) rfl (by simp) fun w7d D7d F7d => ?_)
  change Blk w7d mat _ (vaCells k z o n ⟨none, 0, 0⟩ ⟨none, 0, 0⟩) at D7d
  have F78 : Fr noB w7 w7d := ((F7a.fill (by omega) F7b).fill (by omega) F7c).fill (by omega) F7d
  replace B7 := B7.fr F78 fun h => h
  replace C7 := C7.fr F78 fun h => h
  replace E7 := E7.fr F78 fun h => h
  replace G7 := G7.tr F78
  have hmit : mi < mat := by omega
  have hmatl := D7d.lt
  refine join0_ok (fun w' => ∃ lN lP N V Q, QInv w m5 m6 mi mat ix k z o n ns ps nsA psA lN lP N V Q psA.length psA.length w') (fun kend hkend => ?_) ?_
  ·refine countL_ok psA.length (by omega) (fun j w' => ∃ lN lP N V Q, QInv w m5 m6 mi mat ix k z o n ns ps nsA psA lN lP N V Q j j w') (fun rec j wj hj hI hrec => ?_)
    ⟨⟨none, 0, 0⟩, ⟨none, 0, 0⟩, [], [], [], B7, ⟨_, C7, rfl⟩, D7d, E7, G7, ⟨rfl, .inl ⟨rfl, rfl⟩⟩, ⟨rfl, .inl ⟨rfl, rfl⟩⟩, fun a ha => (by cases ha), fun a ha => (by cases ha), fun a c ha => (by cases ha), ⟨rfl, fun j v q hj => (by simp at hj)⟩, fun _ => ⟨rfl, rfl⟩, fun _ => rfl, fun _ t i ht => by omega, rfl, fun t i ht => by omega⟩
   obtain ⟨lN, lP, N, V, Q, I⟩ := hI
   refine ite_ok (fun hlt => ?_) fun hge => hkend _ ?_
   rotate_left
   ·have hge : ¬ (j : Int) < ((ps.n : Nat) : Int) := of_decide_eq_false hge
    have : j = psA.length := by omega
    subst this
    exact ⟨lN, lP, N, V, Q, I⟩
   have hlt : (j : Int) < ((ps.n : Nat) : Int) := of_decide_eq_true hlt
   obtain ⟨i, hi⟩ : ∃ i, ix[j]? = some i := ⟨_, List.getElem?_eq_getElem (by omega)⟩
   have hin : i < psA.length := by
    have := hperm.mem_iff.1 (List.mem_of_getElem? hi)
    simpa using this
   obtain ⟨x, hx⟩ : ∃ x, psA[i]? = some x := ⟨_, List.getElem?_eq_getElem hin⟩
   have hxm := List.mem_of_getElem? hx
   have hsz := size_mem hxm
   refine join_in (vs := []) (idxB_ok (n := ps.n) (i := j) (by omega) ?_)
   rw [Nat.zero_add, Nat.mul_one]
   refine I.bat.ld (c := .int .i64) (x := (i : Int)) (o := j) (by rw [List.getElem?_map, hi]; rfl) (I.b5.ldS (o := 4) rfl ?_)
   refine join0_ok (fun w' => ∃ lN N, QInv w m5 m6 mi mat ix k z o n ns ps nsA psA lN lP N V Q (j + 1) j w') (fun kj hkj => ite_ok (fun hpos => ?_) fun hz => hkj _ ⟨lN, N, ?_⟩) ?_
   ·-- a name more
    have hpos : ((ns.n : Nat) : Int) > 0 := of_decide_eq_true hpos
    have hne : nsA ≠ [] := by rintro rfl; simp at hnn; omega
    obtain ⟨hln, hnd⟩ := hnames hne
    obtain ⟨nm, hnm⟩ : ∃ nm, nsA[i]? = some nm := ⟨_, List.getElem?_eq_getElem (by omega)⟩
    have hNl := I.lenN hne
    refine drew_ok fun w8 F8 z8 => ?_
    have D8 := I.b10.fr F8 (fun h => h)
    have B8 := I.b5.fr F8 (fun h => h)
    refine D8.ldS (o := 4) rfl (B8.ldS (o := 4) rfl (str_ld (hns.fr (I.fr.tr F8)) hnm (new_ok fun w9 m32 hm32 hs9 M9 F9 => ?_)))
    have D9 := D8.fr F9 (fun h => h)
    have B9 := B8.fr F9 (fun h => h)
    refine keep_cons (B9.held1 rfl) (keep_cons (D9.held1 rfl) (keep_nil ?_))
    have own9 := own_fr0 (own_fr0 I.ownN F8) F9
    refine append_ok uStrs' hiS hzS s1 s2 s3 (by omega) (s := lN) own9 (m := 1) (news := [.string (bs nm)]) rfl (M9.held fun t v ht => by rw [Nat.zero_add]; exact ht) (fun u hu => by rw [List.mem_singleton.1 hu]; rfl) (by unfold maxLen; omega) (by omega) fun lN' w10 own10 F10 ha10 => ?_
    have h10l := I.b10.lt
    have hL8 := F8.size
    have hL9 := F9.size
    have hL10 := F10.size
    have n10 : ∀ y, y ≤ mat → ¬ ∃ a, lN.a = some a ∧ a.block = y := fun y hy ⟨a, ha, h⟩ => by have := (I.belN a ha).1; omega
    have B10 := B9.fr F10 (n10 _ (by omega))
    have D10 := D9.fr F10 (n10 _ (by omega))
    refine keep_cons (B10.held1 rfl) (keep_nil (D10.st (o := 4) rfl (by simp [vaCells]) fun w11 D11 F11 => hkj _ ⟨lN', N ++ [nm], ?_⟩))
    change Blk w11 mat _ (vaCells k z o n lN' lP) at D11
    have hL11 := F11.size
    have K9 : Fr noB wj w9 := F8.tr F9
    obtain ⟨l6, C6', hl6⟩ := I.b6
    have bN : ∀ c, lN'.a = some c → lN.a = some c ∨ (wj.heap.size ≤ c.block ∧ c.block < w11.heap.size) := fun c hc => by
     rcases ha10 c hc with h | h
     ·exact .inl h
     ·exact .inr ⟨by omega, by omega⟩
    have hS : Fr (fun b => b ≤ mat ∨ (∃ a, lN.a = some a ∧ a.block = b) ∨ (∃ a, lP.a = some a ∧ a.block = b)) wj w11 :=
     ((K9.mono fun _ _ h => h.elim).then F10 fun y hy h => .inr (.inl h)).then F11 fun y hy h => .inl (by unfold oneB at h; omega)
    refine ⟨B10.fr F11 (by unfold oneB; omega), ⟨l6, ((C6'.fr K9 (fun h => h)).fr F10 (n10 _ (by omega))).fr F11 (by unfold oneB; omega), hl6⟩, D11, ((I.bat.fr K9 (fun h => h)).fr F10 (n10 _ (by omega))).fr F11 (by unfold oneB; omega), ?_, ?_, ?_, fun c hc => ?_, fun c hc => ?_, fun a c ha hc => ?_, ?_, fun h => absurd h hne, fun _ => by rw [List.length_append, hNl]; rfl, fun _ t i' ht hi' => ?_, I.lenQ, I.atQ⟩
    ·refine ((I.fr.tr K9).then F10 fun y hy h => ?_).then F11 fun y hy h => ?_
     ·obtain ⟨a, ha, h⟩ := h
      have := (I.belN a ha).1
      show False
      omega
     ·unfold oneB at h
      show False
      have := I.fr.size
      omega
    ·rw [List.length_append, List.map_append]
     exact own_cells own10 F11 fun c hc h => by
      unfold oneB at h
      rcases ha10 c hc with h1 | h1
      ·have := (I.belN c h1).1; omega
      ·omega
    ·exact own_cells (own_cells (own_fr0 I.ownP K9) F10 fun c hc ⟨a, ha, h⟩ => I.apart a c ha hc h) F11 fun c hc h => by unfold oneB at h; have := (I.belP c hc).1; omega
    ·rcases bN c hc with h | h
     ·have := I.belN c h; omega
     ·have := I.b10.lt; omega
    ·have := I.belP c hc; omega
    ·rcases bN a ha with h | h
     ·exact I.apart a c h hc
     ·have := I.belP c hc; omega
    ·refine I.sp.go hS fun y hy h => ?_
     rcases h with h | ⟨c, hc, h⟩ | h
     ·exact .inl h
     ·rcases bN c hc with h1 | h1
      ·exact .inr (.inl ⟨c, h1, h⟩)
      ·omega
     ·exact .inr (.inr h)
    ·rcases Nat.lt_succ_iff_lt_or_eq.1 ht with ht | rfl
     ·rw [List.getElem?_append_left (by omega)]
      exact I.atN hne t i' ht hi'
     ·rw [hi] at hi'
      cases hi'
      rw [List.getElem?_append_right (by omega), hNl, Nat.sub_self, hnm]
      rfl
   ·have hz : ¬ ((ns.n : Nat) : Int) > 0 := of_decide_eq_false hz
    have hno : nsA = [] := List.eq_nil_of_length_eq_zero (by omega)
    exact { I with lenN := fun h => absurd hno h, atN := fun h => absurd hno h }
   clear I lN N
   rintro w8 ⟨lN, N, I⟩
   refine drew_ok fun w9 F9 z9 => ?_
   have D9 := I.b10.fr F9 (fun h => h)
   have B9 := I.b5.fr F9 (fun h => h)
   have hVQ := I.sp.1
   have hQl := I.lenQ
   refine D9.ldS (o := 5) rfl (B9.ldS (o := 5) rfl (vpart_ld (hps.fr (I.fr.tr F9)) hx hpn fun k1 z1 o1 n1 ns1 ps1 hv1 => ?_))
   refine callSortV_ok (psorted_go d x (by omega) (by omega) (hfa x hxm) hv1) fun k2 z2 o2 n2 ns2 ps2 w10 F10 hst => ?_
   have D10 := D9.fr F10 (fun h => h)
   have B10 := B9.fr F10 (fun h => h)
   refine keep_cons (B10.held1 rfl) (keep_cons (D10.held1 rfl) (keep_nil (new_ok fun w11 m47 hm47 hs11 M11 F11 => ?_)))
   have D11 := D10.fr F11 (fun h => h)
   have B11 := B10.fr F11 (fun h => h)
   change Blk w11 m47 _ (vaCells k2 z2 o2 n2 ns2 ps2) at M11
   refine keep_cons (B11.held1 rfl) (keep_cons (D11.held1 rfl) (keep_nil ?_))
   have K11 : Fr noB w8 w11 := (F9.tr F10).tr F11
   have own11 := own_fr0 I.ownP K11
   refine append_ok uVals hiP hzP p1 p2 p3 (by omega) (s := lP) own11 (m := 1) (news := vaCells k2 z2 o2 n2 ns2 ps2) rfl (M11.held fun t v ht => by rw [Nat.zero_add]; exact ht) (fun u hu => ?_) (by unfold maxLen; omega) (by omega) fun lP' w12 own12 F12 ha12 => ?_
   ·exact wv_one (V := [(k2, z2, o2, n2, ns2, ps2)]) u (by simpa [wvCells] using hu)
   have h10l := I.b10.lt
   have hL9 := F9.size
   have hL10 := F10.size
   have hL11 := F11.size
   have hL12 := F12.size
   have n12 : ∀ y, y ≤ mat → ¬ ∃ a, lP.a = some a ∧ a.block = y := fun y hy ⟨a, ha, h⟩ => by have := (I.belP a ha).1; omega
   have B12 := B11.fr F12 (n12 _ (by omega))
   have D12 := D11.fr F12 (n12 _ (by omega))
   refine keep_cons (B12.held1 rfl) (keep_nil (D12.st (o := 5) rfl (by simp [vaCells]) fun w13 D13 F13 => hrec (by omega) _ ⟨lN, lP', N, V ++ [(k2, z2, o2, n2, ns2, ps2)], Q ++ [sortS x], ?_⟩))
   change Blk w13 mat _ (vaCells k z o n lN lP') at D13
   have hL13 := F13.size
   obtain ⟨l6, C6', hl6⟩ := I.b6
   have bP : ∀ c, lP'.a = some c → lP.a = some c ∨ (w11.heap.size ≤ c.block ∧ c.block < w13.heap.size) := fun c hc => by
    rcases ha12 c hc with h | h
    ·exact .inl h
    ·exact .inr ⟨by omega, by omega⟩
   have hS : Fr (fun b => b ≤ mat ∨ (∃ a, lN.a = some a ∧ a.block = b) ∨ (∃ a, lP.a = some a ∧ a.block = b)) w8 w13 :=
    ((K11.mono fun _ _ h => h.elim).then F12 fun y hy h => .inr (.inr h)).then F13 fun y hy h => .inl (by unfold oneB at h; omega)
   refine ⟨B12.fr F13 (by unfold oneB; omega), ⟨l6, ((C6'.fr K11 (fun h => h)).fr F12 (n12 _ (by omega))).fr F13 (by unfold oneB; omega), hl6⟩, D13, ((I.bat.fr K11 (fun h => h)).fr F12 (n12 _ (by omega))).fr F13 (by unfold oneB; omega), ?_, ?_, ?_, fun c hc => ?_, fun c hc => ?_, fun a c ha hc => ?_, ?_, I.nil, I.lenN, I.atN, by rw [List.length_append, hQl]; rfl, fun t i' ht hi' => ?_⟩
   ·refine ((I.fr.tr K11).then F12 fun y hy h => ?_).then F13 fun y hy h => ?_
    ·obtain ⟨a, ha, h⟩ := h
     have := (I.belP a ha).1
     show False
     omega
    ·unfold oneB at h
     show False
     have := I.fr.size
     omega
   ·exact own_cells (own_cells (own_fr0 I.ownN K11) F12 fun c hc ⟨a, ha, h⟩ => I.apart c a hc ha h.symm) F13 fun c hc h => by unfold oneB at h; have := (I.belN c hc).1; omega
   ·rw [List.length_append, List.flatMap_append]
    have e : [((k2, z2, o2, n2, ns2, ps2) : WV)].flatMap wvCells = vaCells k2 z2 o2 n2 ns2 ps2 := by simp [wvCells]
    rw [e]
    exact own_cells own12 F13 fun c hc h => by
     unfold oneB at h
     rcases ha12 c hc with h1 | h1
     ·have := (I.belP c h1).1; omega
     ·omega
   ·have := I.belN c hc; omega
   ·rcases bP c hc with h | h
    ·have := I.belP c h; omega
    ·have := I.b10.lt; omega
   ·rcases bP c hc with h | h
    ·exact I.apart a c ha h
    ·have := I.belN a ha; omega
   ·refine ⟨by rw [List.length_append, List.length_append, hVQ]; rfl, fun t v q ht hq w14 F14 => ?_⟩
    have hF14 : ∀ y, y < w13.heap.size → (y ≤ mat ∨ (∃ a, lN.a = some a ∧ a.block = y) ∨ (∃ a, lP'.a = some a ∧ a.block = y)) → y < w8.heap.size ∨ w11.heap.size ≤ y := by
     intro y hy h
     rcases h with h | ⟨c, hc, h⟩ | ⟨c, hc, h⟩
     ·have := I.b10.lt; exact .inl (by omega)
     ·have := (I.belN c hc).2; exact .inl (by omega)
     ·rcases bP c hc with h1 | h1
      ·have := (I.belP c h1).2; exact .inl (by omega)
      ·exact .inr (by omega)
    rcases Nat.lt_or_ge t V.length with h | h
    ·rw [List.getElem?_append_left h] at ht
     rw [List.getElem?_append_left (by omega)] at hq
     refine I.sp.2 t v q ht hq w14 (hS.then F14 fun y hy h => ?_)
     rcases h with h | h | ⟨c, hc, h⟩
     ·exact .inl h
     ·exact .inr (.inl h)
     ·rcases bP c hc with h1 | h1
      ·exact .inr (.inr ⟨c, h1, h⟩)
      ·omega
    ·have htl := (List.getElem?_eq_some_iff.1 ht).1
     rw [List.length_append] at htl
     have : t = V.length := by simp at htl; omega
     subst this
     rw [List.getElem?_append_right (Nat.le_refl _), Nat.sub_self] at ht
     rw [List.getElem?_append_right (by omega), hVQ, Nat.sub_self] at hq
     cases ht
     cases hq
     refine hst w14 ?_
     have hF : Fr (fun b => b < w9.heap.size) w10 w13 := ((F11.mono fun _ _ h => h.elim).then F12 fun y hy h => by
      obtain ⟨a, ha, h⟩ := h
      have := (I.belP a ha).2
      show y < w9.heap.size
      omega).then F13 fun y hy h => by unfold oneB at h; show y < w9.heap.size; omega
     refine hF.then F14 fun y hy h => ?_
     have := hF14 y (by omega) h
     show y < w9.heap.size
     omega
   ·rcases Nat.lt_succ_iff_lt_or_eq.1 ht with ht | rfl
    ·rw [List.getElem?_append_left (by omega)]
     exact I.atQ t i' ht hi'
    ·rw [hi] at hi'
     cases hi'
     rw [List.getElem?_append_right (by omega), hQl, Nat.sub_self, List.getElem?_map, hx]
     rfl
  ·rintro w8 ⟨lN, lP, N, V, Q, I⟩
   obtain ⟨l6, C8, hl6⟩ := I.b6
   refine I.b10.ldW (fill6_ok C8 hl6 rfl rfl rfl rfl rfl rfl fun w9 C9 F9 => ?_)
   change Blk w9 m6 _ (vaCells k z o n lN lP) at C9
   have hw9 : Fr noB w w9 := I.fr.fill (by omega) F9
   refine C9.ldW ⟨k, z, o, n, lN, lP, rfl, hw9, fun w10 F10 => ?_⟩
   have own10 := own_cells (own_cells I.ownP F9 fun c hc h => by have := (I.belP c hc).1; unfold oneB at h; omega) F10 fun c hc h => by
    have := (I.belP c hc).1
    change c.block < w.heap.size at h
    omega
   have own11 := own_cells (own_cells I.ownN F9 fun c hc h => by have := (I.belN c hc).1; unfold oneB at h; omega) F10 fun c hc h => by
    have := (I.belN c hc).1
    change c.block < w.heap.size at h
    omega
   have hF : Fr (fun b => b ≤ mat ∨ (∃ a, lN.a = some a ∧ a.block = b) ∨ (∃ a, lP.a = some a ∧ a.block = b)) w8 w10 := by
    refine Fr.then (F9.mono fun y _ h => .inl (by unfold oneB at h; omega)) F10 fun y hy h => .inl ?_
    change y < w.heap.size at h
    omega
   obtain ⟨hn10, hL10⟩ := vaL_own own10 I.sp.1 fun j v q hj hq => I.sp.2 j v q hj hq w10 hF
   have hR11 := rds_own own11
   by_cases h0 : nsA = []
   ·have hN := (I.nil h0).2
    have hQ : Q = psA.map sortS := by
     apply List.ext_getElem?
     intro t
     by_cases ht : t < psA.length
     ·exact I.atQ t t ht (by rw [hix0 h0, List.getElem?_range ht])
     ·rw [List.getElem?_eq_none (by rw [I.lenQ]; omega), List.getElem?_eq_none (by rw [List.length_map]; omega)]
    rw [h0, sortS_nil]
    unfold VaV
    rw [hN] at hR11
    rw [hQ] at hL10 hn10
    exact ⟨ek, eo, en, ⟨hz, hR11, by simp, hn10, by rw [List.length_map]; exact hpl, hos, hnz, fun x hx => (by cases hx)⟩, hL10⟩
   ·obtain ⟨hln, hnd⟩ := hnames h0
    have hNl := I.lenN h0
    have hM : N.zip Q = pairs nsA psA := order_pairs hln hnd hperm (hix1 h0) hNl I.lenQ (fun t i hi => I.atN h0 t i (by have := (List.getElem?_eq_some_iff.1 hi).1; omega) hi) fun t i hi => I.atQ t i (by have := (List.getElem?_eq_some_iff.1 hi).1; omega) hi
    have hQl := I.lenQ
    rw [sortS_cons h0, ← hM, List.map_fst_zip (by omega), List.map_snd_zip (by omega)]
    unfold VaV
    refine ⟨ek, eo, en, ⟨hz, hR11, by omega, hn10, by omega, hos, hnz, fun x hx => hxl x ?_⟩, hL10⟩
    have hx2 : x ∈ (N.zip Q).map (·.1) := by rw [List.map_fst_zip (by omega)]; exact hx
    rw [hM] at hx2
    exact (pairs_names hln).mem_iff.1 hx2
end Go.Proofs.YtngfnokbdcjoeaaGreatDoor
end
section
namespace Go.Proofs.YtngfnokbdcjoeaaGreatDoor
open Go.Lift Go.Lex Go.Shp
end Go.Proofs.YtngfnokbdcjoeaaGreatDoor
end
