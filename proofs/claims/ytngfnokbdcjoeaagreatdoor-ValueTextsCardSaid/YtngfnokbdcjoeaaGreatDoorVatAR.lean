/- The law behind: one part of its proof (joined by program out of my own texts). No condition. -/
import Derived.Test.YtngfnokbdcjoeaaGreatDoorVatAQ
import Derived.Sort.OwnSorted
import Derived.Shelf.Slices.In.SortNone
section
namespace Go.Shp
open Go.Lex
theorem leB_antisymm {a b : B} (h : a ≤ b) (k : b ≤ a) : a = b := List.le_antisymm h k
theorem leB_trans {a b c : B} (h : a ≤ b) (k : b ≤ c) : a ≤ c := List.le_trans h k
theorem leB_total (a b : B) : a ≤ b ∨ b ≤ a := List.le_total a b
theorem sortB_pairwise (L : List B) : (L.mergeSort fun x y => decide (x ≤ y)).Pairwise (· ≤ ·) := by
 have := List.pairwise_mergeSort (le := fun x y : B => decide (x ≤ y)) (fun a b c h k => by
  rw [decide_eq_true_eq] at *
  exact leB_trans h k) (fun a b => by
  have := leB_total a b
  simpa using this) L
 exact this.imp fun h => by simpa using h
theorem compact_len {Z : List B} (hs : Z.Pairwise (· ≤ ·)) : (Lib.compact Z).length = Z.length ↔ Z.Nodup := by
 constructor
 ·intro h
  have hk : ∀ j, j < Z.length → Lib.keeps Z.toArray j = true := by
   unfold Lib.compact Lib.compactUpTo at h
   rw [List.length_map] at h
   have h2 : ((List.range Z.length).filter (Lib.keeps Z.toArray)).length = (List.range Z.length).length := by rw [h, List.length_range]
   rw [List.length_filter_eq_length_iff] at h2
   exact fun j hj => h2 j (List.mem_range.2 hj)
  rw [List.Nodup, List.pairwise_iff_getElem]
  intro i j hi hj hij e
  have hkj := hk j hj
  have hle : ∀ a b (ha : a < Z.length) (hb : b < Z.length), a ≤ b → Z[a] ≤ Z[b] := fun a b ha hb hab => by
   rcases Nat.lt_or_ge a b with h | h
   ·exact List.pairwise_iff_getElem.1 hs a b ha hb h
   ·have : a = b := by omega
    subst this
    exact List.le_refl _
  have h1 := hle i (j - 1) hi (by omega) (by omega)
  have h2 := hle (j - 1) j (by omega) hj (by omega)
  rw [e] at h1
  have h3 := leB_antisymm h1 h2
  unfold Lib.keeps at hkj
  rw [decide_eq_true_eq] at hkj
  rcases hkj with h | h
  ·omega
  ·apply h
   rw [getElem!_pos _ j (by simpa using hj), getElem!_pos _ (j - 1) (by simp; omega)]
   simpa using h3
 ·intro h
  rw [Lib.compact_all]
  intro j hj
  unfold Lib.keeps
  rw [decide_eq_true_eq]
  rcases Nat.eq_zero_or_pos j with h0 | h0
  ·exact .inl h0
  ·right
   rw [getElem!_pos _ j (by simpa using hj), getElem!_pos _ (j - 1) (by simp; omega)]
   intro e
   have e : Z[j] = Z[j - 1] := by simpa using e
   have := (List.getElem_inj (xs := Z) h).1 e
   omega
theorem compact_sort (L : List B) : (Lib.compact (L.mergeSort fun x y => decide (x ≤ y))).length = L.length ↔ L.Nodup := by
 have h := compact_len (sortB_pairwise L)
 rw [List.length_mergeSort] at h
 rw [h]
 exact (List.mergeSort_perm L _).nodup_iff
end Go.Shp
namespace Go.Proofs.YtngfnokbdcjoeaaGreatDoor
open Go.Lift Go.Lex Go.Shp
open Go.RowKit Go.Sort
theorem values_new (l : Sl) (w : World) : Calls Tryz.prog 97 #[.slice l.a l.n l.c] w fun e w' => ∃ m, e = .returned (.func (.func 133) #[] #[.pointer (some ⟨m, 0, none⟩)]) ∧ Blk w' m 22 [.slice l.a l.n l.c] ∧ Fr noB w w' := by
 apply c97
 unfold t97 svZ nwZ
 exact new_ok fun w1 m hm hs B F => ⟨m, rfl, B, F⟩
theorem below_fr {w w' : World} (h : Below w.heap.size w w') : Fr noB w w' := ⟨h.os, h.output, h.size, fun k hk _ => h.block k hk⟩
theorem collect_ok {w : World} {m : Nat} {l : Sl} {L : List B} (hl : L.length * 16 ≤ 140737488351232) (B0 : Blk w m 22 [.slice l.a l.n l.c]) (hR : RdS w l (L.map bs)) :
  Calls Tryz.prog 131 #[.func (.func 133) #[] #[.pointer (some ⟨m, 0, none⟩)]] w fun e W' => ∃ r : Sl, e = .returned (.slice r.a r.n r.c) ∧ W'.ownsRow w.heap.size 9 1 (.slice r.a r.n r.c) L.length (L.map encStr) ∧ Fr noB w W' := by
 apply c131
 unfold t131 svZ caLZ
 refine call_ok (callsIn_wide.1 (appendSeq_in Fence.wide 3 trivial trivial rfl (Nat.le_refl _) m l L (by omega) w B0.lt (B0.cell (o := 0) rfl) hR)) ?_
 rintro e w' ⟨v, rfl, hrow, hb⟩
 obtain ⟨r, rfl⟩ : ∃ r : Sl, v = .slice r.a r.n r.c := by
  rcases hrow.2 with ⟨rfl, _⟩ | ⟨g, cap, cur, rfl, _⟩
  ·exact ⟨⟨none, 0, 0⟩, rfl⟩
  ·exact ⟨⟨_, _, _⟩, rfl⟩
 exact ⟨((r, ()), ()), rfl, r, rfl, hrow, below_fr hb⟩
theorem sorted_ok {w : World} {m : Nat} {l : Sl} {L : List B} (hl : L.length * 16 ≤ 140737488351232) (B0 : Blk w m 22 [.slice l.a l.n l.c]) (hR : RdS w l (L.map bs)) :
  Calls Tryz.prog 96 #[.func (.func 133) #[] #[.pointer (some ⟨m, 0, none⟩)]] w fun e W' => ∃ r : Sl, e = .returned (.slice r.a r.n r.c) ∧ W'.ownsRow w.heap.size 9 1 (.slice r.a r.n r.c) L.length ((L.mergeSort fun x y => decide (x ≤ y)).map encStr) ∧ Fr noB w W' := by
 apply c96
 unfold t96 svZ ca0Z caLZ
 refine call_ok (collect_ok hl B0 hR) ?_
 rintro e w1 ⟨r, rfl, hrow, F⟩
 refine ⟨((r, ()), ()), rfl, ?_⟩
 show callG _ _ _ _ _ _ _
 rcases hrow.2 with ⟨he, hz⟩ | ⟨g, cap, cur, he, hbase, hgb, r1, r2, r3, r4⟩
 ·have hL : L = [] := List.eq_nil_of_length_eq_zero hz
  obtain ⟨a, n, c⟩ := r
  cases he
  refine call_ok (Any.slices_Sort_string_none Tryz.lays190 none 0 w1) ?_
  rintro e w2 ⟨rfl, rfl⟩
  refine ⟨(), rfl, ⟨⟨none, 0, 0⟩, rfl, ?_, F⟩⟩
  subst hL
  simpa using hrow
 ·obtain ⟨a, n, c⟩ := r
  cases he
  have hH : Holds encStr w1 g 0 L.toArray := holds_of_block hgb (by simpa using r4)
  have hgl : g < w1.heap.size := (Array.getElem?_eq_some_iff.1 hgb).1
  refine call_ok (Tryz.slices_Sort_string g 0 c L w1 hH hgl (by omega)) ?_
  rintro e w2 ⟨rfl, nn, os, rfl⟩
  refine ⟨(), rfl, ⟨⟨some ⟨g, 0, none⟩, L.length, c⟩, rfl, ownsRow_sorted (by simp) hbase hgb r1 r2 r3, ?_⟩⟩
  exact F.then (Fr.of_grown (grownBy_sorted _)) fun x hx h => by
   cases h
   omega
set_option maxHeartbeats 2000000 in
theorem snamedC : NamedC := by
 intro w k o n ns ps s hv hM
 obtain ⟨k', o', n', names, parts⟩ := s
 obtain ⟨_, _, _, ⟨hns, hnl, hpn, hpl, hos, hnz, hxl⟩, hps⟩ := hv.parts
 change RdS w ns (names.map bs) at hns
 change ps.n = parts.length at hpn
 change parts.length ≤ 1000 at hM
 change ∀ x ∈ names, x.length < 4611686018427387904 at hxl
 have hnn := hns.1
 rw [List.length_map] at hnn
 show AnsB 86 #[shArg k o n ns ps] w (namedOk names parts.length)
 apply c86
 unfold t86 wrZ tvZ svZ ldSZ ldLZ nw5Z caBZ caLZ caZ jn0Z lpIZ ixZ
 refine new_ok fun w1 m5 hm5 hs1 B1 F1 => ?_
 change Blk w1 m5 _ (shCells k o n ns ps) at B1
 refine B1.ldS (o := 3) rfl (B1.ldS (o := 4) rfl ?_)
 refine ite_ok (fun h => ⟨?_, F1⟩) fun h => ?_
 ·have h : ¬ ((ns.n : Nat) : Int) = ((ps.n : Nat) : Int) := by simpa using h
  have : namedOk names parts.length = false := by
   unfold namedOk
   rw [decide_eq_false (by omega)]
   rfl
  rw [this]
 have h : ((ns.n : Nat) : Int) = ((ps.n : Nat) : Int) := by simpa using h
 have hlen : names.length = parts.length := by omega
 have hno : namedOk names parts.length = (names.all isName && decide names.Nodup) := by
  unfold namedOk
  rw [decide_eq_true hlen, Bool.true_and]
 rw [hno]
 refine B1.ldS (o := 3) rfl ?_
 refine join0_ok (fun w' => names.all isName = true ∧ Fr noB w1 w') (fun kend hkend => ?_) (fun w2 ⟨ha, F2⟩ => ?_)
 ·refine countL_ok names.length (by omega) (fun i w' => (∀ (j : Nat) s, j < i → names[j]? = some s → isName s = true) ∧ Fr noB w1 w') (fun rec i w3 hi hI hrec => ?_) ⟨fun j s h => by omega, Fr.refl _ _⟩
  obtain ⟨hdone, F3⟩ := hI
  refine ite_ok (fun hlt => ?_) fun hge => hkend _ ⟨?_, F3⟩
  ·have hlt : (i : Int) < (ns.n : Int) := of_decide_eq_true hlt
   obtain ⟨x, hx⟩ : ∃ x, names[i]? = some x := ⟨_, List.getElem?_eq_getElem (by omega)⟩
   refine join_in (vs := []) (str_ld (hns.fr (F1.tr F3)) hx (callB_ok (Name_ok (bs x) ?_) fun w4 F4 => ?_))
   ·have := hxl x (List.mem_of_getElem? hx)
    show x.toArray.size < _
    simpa using this
   ·rw [bl_bs]
    by_cases hok : isName x = true
    ·refine ite_no (by rw [hok]; rfl) (hrec (by omega) _ ⟨fun j y hj hy => ?_, F3.tr F4⟩)
     rcases Nat.lt_succ_iff_lt_or_eq.1 hj with hj | rfl
     ·exact hdone j y hj hy
     ·rw [hx] at hy
      cases hy
      exact hok
    ·refine ite_yes (by simpa using hok) ⟨?_, F1.tr (F3.tr F4)⟩
     have : names.all isName = false := by
      rw [Bool.eq_false_iff]
      intro h
      exact hok (List.all_eq_true.1 h x (List.mem_of_getElem? hx))
     rw [this]
     rfl
  ·have hge : ¬ (i : Int) < (ns.n : Int) := of_decide_eq_false hge
   rw [List.all_eq_true]
   intro x hx
   obtain ⟨j, hj⟩ := List.mem_iff_getElem?.1 hx
   have := (List.getElem?_eq_some_iff.1 hj).1
   exact hdone j x (by omega) hj
 rw [ha, Bool.true_and]
 have B2 := B1.fr F2 (fun h => h)
 refine B2.ldS (o := 3) rfl (call_ok (values_new ns w2) ?_)
 rintro e w3 ⟨m, rfl, C3, F3⟩
 refine ⟨((_, ()), ()), rfl, ?_⟩
 have G3 := F1.tr (F2.tr F3)
 refine call_ok (sorted_ok (by omega) C3 (hns.fr G3)) ?_
 rintro e w4 ⟨r, rfl, hrow, F4⟩
 refine ⟨((r, ()), ()), rfl, ?_⟩
 refine drew_ok fun w4' F4' z4' => ?_
 have B4 := (B2.fr (F3.tr (F4.tr F4')) (fun h => h))
 have G4 := (G3.tr F4).tr F4'
 refine B4.ldS (o := 3) rfl ?_
 have fin : ∀ (r2 : Sl) w5, w5.cell? ⟨m5, 3, none⟩ = some (.slice ns.a ns.n ns.c) → Fr noB w w5 → (r2.n = names.length ↔ names.Nodup) → (keepG [(⟨m5, 3, none⟩, [.slice ns.a ns.n ns.c])] (retG (.bool (((r2.n : Nat) : Int) == ((ns.n : Nat) : Int))))) (fun e w' => e = .returned (.bool (decide names.Nodup)) ∧ Fr noB w w') w5 := by
  intro r2 w5 B5 F5 hr
  refine keep_cons (held_one B5) (keep_nil ⟨?_, F5⟩)
  have : (((r2.n : Nat) : Int) == ((ns.n : Nat) : Int)) = decide names.Nodup := by
   rw [Bool.eq_iff_iff, beq_iff_eq, decide_eq_true_eq, ← hr]
   omega
  rw [this]
 have hsrt := compact_sort names
 rcases hrow.2 with ⟨he, hz⟩ | ⟨g, cap, cur, he, hbase, hgb, r1, r2, r3, r4⟩
 ·have hL : names = [] := List.eq_nil_of_length_eq_zero (by simpa using hz)
  obtain ⟨a, nn, c⟩ := r
  cases he
  refine call_ok (Tryz.slices_Compact_string_empty none 0 w4') ?_
  rintro e w5 ⟨rfl, rfl⟩
  exact ⟨((⟨none, 0, 0⟩, ()), ()), rfl, fin ⟨none, 0, 0⟩ _ (B4.cell (o := 3) rfl) G4 (by subst hL; simp)⟩
 ·obtain ⟨a, nn, c⟩ := r
  cases he
  have hzl : (names.mergeSort fun x y => decide (x ≤ y)).length = names.length := List.length_mergeSort _
  have hgb' : w4'.heap[g]? = some (.cells cur 9 (0, 0)) := by
   rw [F4'.blk g (Array.getElem?_eq_some_iff.1 hgb).1 (fun h => h)]
   exact hgb
  have hH : Holds encStr w4' g 0 (names.mergeSort fun x y => decide (x ≤ y)).toArray := holds_of_block hgb' (by rw [hzl]; simpa using r4)
  have hcc := Tryz.slices_Compact_string g 0 c (names.mergeSort fun x y => decide (x ≤ y)) w4' hH (by omega) (hzl ▸ r1)
  rw [hzl] at hcc
  refine call_ok hcc ?_
  rintro e w5 ⟨rfl, q, rfl⟩
  have hgr := Fr.of_grown (grownBy_sorted (w := w4') (g := g) (n := q) (os := #[]) (Lib.compact (names.mergeSort fun x y => decide (x ≤ y)) ++ List.replicate (names.length - (Lib.compact (names.mergeSort fun x y => decide (x ≤ y))).length) []).toArray)
  rw [grow_empty] at hgr
  have hg1 : w3.heap.size ≤ g := hbase
  have hm := B2.fr F3 (fun h => h) |>.lt
  have hgs : g ≠ m5 := by omega
  have hw3 := G3.size
  exact ⟨((⟨some ⟨g, 0, none⟩, _, c⟩, ()), ()), rfl, fin ⟨some ⟨g, 0, none⟩, _, c⟩ _ ((B4.fr hgr (fun h => hgs (by cases h; rfl))).cell (o := 3) rfl) (G4.then hgr fun x hx h => by cases h; omega) hsrt⟩
end Go.Proofs.YtngfnokbdcjoeaaGreatDoor
end
section
namespace Go.Shp
open Go.Lex
end Go.Shp
namespace Go.Proofs.YtngfnokbdcjoeaaGreatDoor
open Go.Lift Go.Lex Go.Shp
theorem indexT_ok {w : World} {l0 : Sl} {L : List B} (x : ByteArray) (hL : RdS w l0 (L.map bs)) (hl : L.length < 4611686018427387904) :
  Calls Tryz.prog 57 #[.slice l0.a l0.n l0.c, .string x] w fun e w' => ∃ n : Int, e = .returned (.int .i64 n) ∧ Fr noB w w' ∧ ((n = -1 ∧ ∀ j : Nat, L[j]? ≠ some (bl x)) ∨ ∃ i : Nat, n = (i : Int) ∧ L[i]? = some (bl x) ∧ ∀ j, j < i → L[j]? ≠ some (bl x)) := by
 have hnn := hL.1
 rw [List.length_map] at hnn
 apply c57
 unfold t57 wrZ ivZ ldSZ jn0Z lpIZ ixZ
 refine join0_ok (fun w' => (∀ j : Nat, L[j]? ≠ some (bl x)) ∧ Fr noB w w') (fun kend hkend => ?_) (fun w' ⟨h, F⟩ => ⟨-1, rfl, F, .inl ⟨rfl, h⟩⟩)
 refine countL_ok L.length (by omega) (fun i w' => (∀ j, j < i → L[j]? ≠ some (bl x)) ∧ Fr noB w w') (fun rec i w1 hi hI hrec => ?_) ⟨fun j h => by omega, Fr.refl _ _⟩
 obtain ⟨hdone, F1⟩ := hI
 refine ite_ok (fun hlt => ?_) fun hge => hkend _ ⟨fun j h => ?_, F1⟩
 ·have hlt : (i : Int) < (l0.n : Int) := of_decide_eq_true hlt
  obtain ⟨y, hy⟩ : ∃ y, L[i]? = some y := ⟨_, List.getElem?_eq_getElem (by omega)⟩
  refine join_in (vs := []) (str_ld (hL.fr F1) hy ?_)
  rw [eq_bl, bl_bs]
  refine ite_ok (fun h => ⟨(i : Int), rfl, F1, .inr ⟨i, rfl, by rw [hy, beq_iff_eq.1 h], hdone⟩⟩) fun h => hrec (by omega) _ ⟨fun j hj => ?_, F1⟩
  rcases Nat.lt_succ_iff_lt_or_eq.1 hj with hj | rfl
  ·exact hdone j hj
  ·rw [hy]
   intro e
   cases e
   simp at h
 ·have hge : ¬ (i : Int) < (l0.n : Int) := of_decide_eq_false hge
  have := (List.getElem?_eq_some_iff.1 h).1
  exact hdone j (by omega) h
theorem containsT_ok {w : World} {l0 : Sl} {L : List B} {f : FuncId} {c : Array Value} {p : B → Bool} (hL : RdS w l0 (L.map bs)) (hl : L.length < 4611686018427387904) (hr : (resOf Tryz.prog f).isSome = true)
  (hf : ∀ x ∈ L, ∀ w1, Fr noB w w1 → AnsB f (#[.string (bs x)] ++ c) w1 (p x)) :
  AnsB 134 #[.slice l0.a l0.n l0.c, .func (.func f) #[] c] w (L.any p) := by
 have hnn := hL.1
 rw [List.length_map] at hnn
 have key : Calls Tryz.prog 167 #[.slice l0.a l0.n l0.c, .func (.func f) #[] c] w fun e w' => ∃ n : Int, e = .returned (.int .i64 n) ∧ decide (n ≥ 0) = L.any p ∧ Fr noB w w' := by
  apply c167
  unfold t167 wrZ ivZ tvZ ldSZ jn0Z lpIZ ixZ
  refine join0_ok (fun w' => L.any p = false ∧ Fr noB w w') (fun kend hkend => ?_) (fun w' ⟨h, F⟩ => ⟨-1, rfl, by rw [h]; rfl, F⟩)
  refine countL_ok L.length (by omega) (fun i w' => (∀ (j : Nat) s, j < i → L[j]? = some s → p s = false) ∧ Fr noB w w') (fun rec i w1 hi hI hrec => ?_) ⟨fun j s h => by omega, Fr.refl _ _⟩
  obtain ⟨hdone, F1⟩ := hI
  refine ite_ok (fun hlt => ?_) fun hge => hkend _ ⟨?_, F1⟩
  ·have hlt : (i : Int) < (l0.n : Int) := of_decide_eq_true hlt
   obtain ⟨s, hs⟩ : ∃ s, L[i]? = some s := ⟨_, List.getElem?_eq_getElem (by omega)⟩
   have hm := List.mem_of_getElem? hs
   refine join_in (vs := []) (str_ld (hL.fr F1) hs ⟨f, #[], c, rfl, hr, ?_⟩)
   rw [Array.empty_append]
   refine (hf s hm w1 F1).mono fun e w2 ⟨he, F2⟩ => .inl ⟨((p s, ()), ()), he, ?_⟩
   refine ite_ok (fun hp => ⟨(i : Int), rfl, ?_, F1.tr F2⟩) fun hp => hrec (by omega) _ ⟨fun j x hj hx => ?_, F1.tr F2⟩
   ·rw [decide_eq_true (by omega)]
    exact (List.any_eq_true.2 ⟨s, hm, hp⟩).symm
   ·rcases Nat.lt_succ_iff_lt_or_eq.1 hj with hj | rfl
    ·exact hdone j x hj hx
    ·rw [hs] at hx
     cases hx
     exact hp
  ·have hge : ¬ (i : Int) < (l0.n : Int) := of_decide_eq_false hge
   rw [List.any_eq_false]
   intro s hs
   obtain ⟨j, hj⟩ := List.mem_iff_getElem?.1 hs
   have := (List.getElem?_eq_some_iff.1 hj).1
   rw [hdone j s (by omega) hj]
   exact Bool.false_ne_true
 apply c134
 unfold t134 svZ caIZ
 refine call_ok key ?_
 rintro e w' ⟨n, rfl, hn, F⟩
 exact ⟨((n, ()), ()), rfl, by rw [← hn], F⟩
end Go.Proofs.YtngfnokbdcjoeaaGreatDoor
end
section
namespace Go.Proofs.YtngfnokbdcjoeaaGreatDoor
open Go.Lift Go.Lex Go.Shp
open Go.RowKit Go.Sort
theorem everyT_e : t98 = fun (l0 : Sl) (v1 : Value) => newG (.cells v1.cells 82 (0, 0)) (fun (m2 : Nat) => callG Tryz.prog 134 #[.slice l0.a l0.n l0.c, .func (.func 135) #[] #[.pointer (some ⟨m2, 0, none⟩)]] [.one .bool] (fun (b3 : Bool) => retG (.bool (!b3)))) := by kernel_rfl
theorem resEvT : (resOf Tryz.prog 135).isSome = true := by kernel_rfl
theorem all_any {α : Type} (L : List α) (p : α → Bool) : (!L.any fun x => !p x) = L.all p := by
 rw [Bool.eq_iff_iff]
 simp
theorem everyT_ok {w : World} {l0 : Sl} {L : List B} {f : FuncId} {p : B → Bool} (hL : RdS w l0 (L.map bs)) (hl : L.length < 4611686018427387904) (hr : (resOf Tryz.prog f).isSome = true)
  (hf : ∀ x ∈ L, ∀ w1, Fr noB w w1 → AnsB f #[.string (bs x)] w1 (p x)) : AnsB 98 #[.slice l0.a l0.n l0.c, .func (.func f) #[] #[]] w (L.all p) := by
 refine c98 l0 (.func (.func f) #[] #[]) ?_
 rw [everyT_e]
 refine new_ok (cs := #[.func (.func f) #[] #[]]) fun w1 m hm hs1 B1 F1 => ?_
 refine callB_ok (containsT_ok (p := fun x => !p x) (hL.fr F1) hl resEvT fun x hx w2 F2 => ?_) fun w3 F3 => ⟨by rw [all_any], F1.tr F3⟩
 show AnsB _ #[.string (bs x), .pointer (some ⟨m, 0, none⟩)] w2 _
 apply c135
 unfold t135 tvZ
 refine (B1.fr F2 (fun h => h)).ld (c := .any) (x := .func (.func f) #[] #[]) (o := 0) rfl ?_
 exact callBV_ok hr (hf x hx w2 (F1.tr F2)) fun w4 F4 => ⟨rfl, F4⟩
theorem resName : (resOf Tryz.prog 70).isSome = true := by kernel_rfl
theorem apart_ok {w : World} {l0 : Sl} {names : List B} (hns : RdS w l0 (names.map bs)) (hnl : names.length * 16 ≤ 140737488351232) (hxl : ∀ x ∈ names, x.length < 4611686018427387904) : AnsB 69 #[.slice l0.a l0.n l0.c] w (names.all isName && decide names.Nodup) := by
 have hnn := hns.1
 rw [List.length_map] at hnn
 apply c69
 unfold t69 svZ caBZ caLZ caZ jnBZ
 refine call_ok (values_new l0 w) ?_
 rintro e w3 ⟨m, rfl, C3, F3⟩
 refine ⟨((_, ()), ()), rfl, ?_⟩
 refine call_ok (sorted_ok hnl C3 (hns.fr F3)) ?_
 rintro e w4 ⟨r, rfl, hrow, F4⟩
 refine ⟨((r, ()), ()), rfl, ?_⟩
 have G4 := F3.tr F4
 refine join1_ok (c := .bool) (fun (b : Bool) w' => b = (names.all isName && decide names.Nodup) ∧ Fr noB w w') (fun kj hkj => ?_) fun b w' ⟨hb, F⟩ => ⟨by rw [hb], F⟩
 refine callB_ok (everyT_ok (p := isName) (hns.fr G4) (by omega) resName fun x hx w1 F1 => ?_) fun w5 F5 => ?_
 ·have h := Name_ok (w := w1) (bs x) (by rw [bs_size]; exact hxl x hx)
  rwa [bl_bs] at h
 refine ite_ok (fun ha => ?_) fun ha => hkj _ _ ⟨by rw [ha]; rfl, G4.tr F5⟩
 have hsrt := compact_sort names
 have fin : ∀ (r2 : Sl) w6, Fr noB w w6 → (r2.n = names.length ↔ names.Nodup) → kj (((r2.n : Nat) : Int) == ((l0.n : Nat) : Int)) (fun e w' => e = .returned (.bool (names.all isName && decide names.Nodup)) ∧ Fr noB w w') w6 := by
  intro r2 w6 F6 hr
  refine hkj _ _ ⟨?_, F6⟩
  rw [ha, Bool.true_and, Bool.eq_iff_iff, beq_iff_eq, decide_eq_true_eq, ← hr]
  omega
 rcases hrow.2 with ⟨he, hz⟩ | ⟨g, cap, cur, he, hbase, hgb, r1, r2, r3, r4⟩
 ·have hL : names = [] := List.eq_nil_of_length_eq_zero (by simpa using hz)
  obtain ⟨a, nn, c⟩ := r
  cases he
  refine call_ok (Tryz.slices_Compact_string_empty none 0 w5) ?_
  rintro e w6 ⟨rfl, rfl⟩
  exact ⟨((⟨none, 0, 0⟩, ()), ()), rfl, fin ⟨none, 0, 0⟩ _ (G4.tr F5) (by subst hL; simp)⟩
 ·obtain ⟨a, nn, c⟩ := r
  cases he
  have hzl : (names.mergeSort fun x y => decide (x ≤ y)).length = names.length := List.length_mergeSort _
  have hgb' : w5.heap[g]? = some (.cells cur 9 (0, 0)) := by
   rw [F5.blk g (Array.getElem?_eq_some_iff.1 hgb).1 (fun h => h)]
   exact hgb
  have hH : Holds encStr w5 g 0 (names.mergeSort fun x y => decide (x ≤ y)).toArray := holds_of_block hgb' (by rw [hzl]; simpa using r4)
  have hcc := Tryz.slices_Compact_string g 0 c (names.mergeSort fun x y => decide (x ≤ y)) w5 hH (by omega) (hzl ▸ r1)
  rw [hzl] at hcc
  refine call_ok hcc ?_
  rintro e w6 ⟨rfl, q, rfl⟩
  have hgr := Fr.of_grown (grownBy_sorted (w := w5) (g := g) (n := q) (os := #[]) (Lib.compact (names.mergeSort fun x y => decide (x ≤ y)) ++ List.replicate (names.length - (Lib.compact (names.mergeSort fun x y => decide (x ≤ y))).length) []).toArray)
  rw [grow_empty] at hgr
  have hg1 : w3.heap.size ≤ g := hbase
  have hw3 := F3.size
  exact ⟨((⟨some ⟨g, 0, none⟩, _, c⟩, ()), ()), rfl, fin ⟨some ⟨g, 0, none⟩, _, c⟩ _ ((G4.tr F5).then hgr fun x hx h => by cases h; omega) hsrt⟩
theorem everyV_e : t44 = fun (l0 : Sl) (v1 : Value) => newG (.cells v1.cells 31 (0, 0)) (fun (m2 : Nat) => callG Tryz.prog 72 #[.slice l0.a l0.n l0.c, .func (.func 73) #[] #[.pointer (some ⟨m2, 0, none⟩)]] [.one .bool] (fun (b3 : Bool) => retG (.bool (!b3)))) := by kernel_rfl
theorem resEvV : (resOf Tryz.prog 73).isSome = true := by kernel_rfl
def FunV (fv : Value) (P : Shape → Prop) (p : Shape → Bool) (w0 : World) : Prop := ∃ f cs, fv = .func (.func f) #[] cs ∧ (resOf Tryz.prog f).isSome = true ∧ ∀ w, Fr noB w0 w → ∀ (k z : Int) (o n : ByteArray) (ns ps : Sl) (s : Shape), VaV w k z o n ns ps s → P s → AnsB f (#[vaArg k z o n ns ps] ++ cs) w (p s)
theorem callFV_ok {R : Ending → World → Prop} {w0 w : World} {P : Shape → Prop} {fv : Value} {p : Shape → Bool} (hq : FunV fv P p w0) (F0 : Fr noB w0 w) {k z : Int} {o n : ByteArray} {ns ps : Sl} {s : Shape} (hv : VaV w k z o n ns ps s) (hp : P s) {K : Bool → G} (h : ∀ w', Fr noB w w' → K (p s) R w') : callVG Tryz.prog fv #[vaArg k z o n ns ps] [.one .bool] K R w := by
 obtain ⟨f, cs, rfl, hr, hc⟩ := hq
 refine ⟨f, #[], cs, rfl, hr, ?_⟩
 rw [Array.empty_append]
 exact (hc w F0 k z o n ns ps s hv hp).mono fun e w' ⟨he, F⟩ => .inl ⟨((p s, ()), ()), he, h w' F⟩
theorem containsV_ok {w : World} {l0 : Sl} {L : List Shape} {fv : Value} {p : Shape → Bool} (hL : VaL w l0.a 0 L) (h0 : l0.n = L.length) (hl : L.length < 4611686018427387904) (hf : FunV fv (· ∈ L) p w) :
  AnsB 72 #[.slice l0.a l0.n l0.c, fv] w (L.any p) := by
 have key : Calls Tryz.prog 104 #[.slice l0.a l0.n l0.c, fv] w fun e w' => ∃ n : Int, e = .returned (.int .i64 n) ∧ decide (n ≥ 0) = L.any p ∧ Fr noB w w' := by
  refine c104 l0 fv ?_
  unfold t104 wrZ ivZ ld6xZ vaZ jn0Z lpIZ ixZ
  refine join0_ok (fun w' => L.any p = false ∧ Fr noB w w') (fun kend hkend => ?_) (fun w' ⟨h, F⟩ => ⟨-1, rfl, by rw [h]; rfl, F⟩)
  refine countL_ok L.length (by omega) (fun i w' => (∀ (j : Nat) s, j < i → L[j]? = some s → p s = false) ∧ Fr noB w w') (fun rec i w1 hi hI hrec => ?_) ⟨fun j s h => by omega, Fr.refl _ _⟩
  obtain ⟨hdone, F1⟩ := hI
  refine ite_ok (fun hlt => ?_) fun hge => hkend _ ⟨?_, F1⟩
  ·have hlt : (i : Int) < (l0.n : Int) := of_decide_eq_true hlt
   obtain ⟨s, hs⟩ : ∃ s, L[i]? = some s := ⟨_, List.getElem?_eq_getElem (by omega)⟩
   have hm := List.mem_of_getElem? hs
   refine join_in (vs := []) (vpart_ld0 hL F1 hs h0 fun k1 z1 o1 n1 ns1 ps1 hv1 => callFV_ok hf F1 (hv1.fr F1) hm fun w2 F2 => ?_)
   refine ite_ok (fun hp => ⟨(i : Int), rfl, ?_, F1.tr F2⟩) fun hp => hrec (by omega) _ ⟨fun j x hj hx => ?_, F1.tr F2⟩
   ·rw [decide_eq_true (by omega)]
    exact (List.any_eq_true.2 ⟨s, hm, hp⟩).symm
   ·rcases Nat.lt_succ_iff_lt_or_eq.1 hj with hj | rfl
    ·exact hdone j x hj hx
    ·rw [hs] at hx
     cases hx
     exact hp
  ·have hge : ¬ (i : Int) < (l0.n : Int) := of_decide_eq_false hge
   rw [List.any_eq_false]
   intro s hs
   obtain ⟨j, hj⟩ := List.mem_iff_getElem?.1 hs
   have := (List.getElem?_eq_some_iff.1 hj).1
   rw [hdone j s (by omega) hj]
   exact Bool.false_ne_true
 refine c72 l0 fv ?_
 unfold t72 svZ caIZ
 refine call_ok key ?_
 rintro e w' ⟨n, rfl, hn, F⟩
 exact ⟨((n, ()), ()), rfl, by rw [hn], F⟩
theorem everyV_ok {w : World} {l0 : Sl} {L : List Shape} {fv : Value} {p : Shape → Bool} (hL : VaL w l0.a 0 L) (h0 : l0.n = L.length) (hl : L.length < 4611686018427387904) (hf : FunV fv (· ∈ L) p w) :
  AnsB 44 #[.slice l0.a l0.n l0.c, fv] w (L.all p) := by
 obtain ⟨f, cs, rfl, hr, hc⟩ := id hf
 refine c44 l0 (.func (.func f) #[] cs) ?_
 rw [everyV_e]
 refine new_ok (cs := #[.func (.func f) #[] cs]) fun w1 m hm hs1 B1 F1 => ?_
 refine callB_ok (containsV_ok (p := fun x => !p x) (hL.fr F1) h0 hl ⟨_, _, rfl, resEvV, fun w2 F2 k z o n ns ps s hv hs => ?_⟩) fun w3 F3 => ⟨by rw [all_any], F1.tr F3⟩
 show AnsB _ #[vaArg k z o n ns ps, .pointer (some ⟨m, 0, none⟩)] w2 _
 apply c73
 unfold t73 ld6mZ vaZ nw6Z
 refine new_ok fun w3 m7 hm7 hs3 B3 F3 => ?_
 change Blk w3 m7 _ (vaCells k z o n ns ps) at B3
 refine (B1.fr (F2.tr F3) (fun h => h)).ld (c := .any) (x := .func (.func f) #[] cs) (o := 0) rfl (B3.ldW ?_)
 exact callFV_ok hf ((F1.tr F2).tr F3) (hv.fr F3) hs fun w4 F4 => ⟨rfl, F3.tr F4⟩
end Go.Proofs.YtngfnokbdcjoeaaGreatDoor
end
section
namespace Go.Shp
theorem formeds_all : ∀ l : List Shape, formeds l = l.all formed
 | [] => by rw [formeds]; rfl
 | s :: r => by rw [formeds, formeds_all r, List.all_cons]
end Go.Shp
namespace Go.Proofs.YtngfnokbdcjoeaaGreatDoor
open Go.Lift Go.Lex Go.Shp
set_option maxHeartbeats 2000000 in
theorem pform_ok {w : World} {s : Shape} {k z : Int} {o n : ByteArray} {ns ps : Sl} (hv : VaV w k z o n ns ps s) : AnsB 43 #[vaArg k z o n ns ps] w (vform s) := by
 obtain ⟨q, o', n', names, parts⟩ := s
 obtain ⟨hq, rfl, rfl, ⟨⟨z1, z2⟩, hns, hnl, hpn, hpl, hos, hnz, hxl⟩, hps⟩ := hv.parts
 change q = vk k z at hq
 change RdS w ns (names.map bs) at hns
 change names.length * 16 ≤ 140737488351232 at hnl
 change ps.n = parts.length at hpn
 change ∀ x ∈ names, x.length < 4611686018427387904 at hxl
 have hnn := hns.1
 rw [List.length_map] at hnn
 subst hq
 apply c43
 unfold t43 tvZ svZ ldIZ ldSZ ldLZ nw6Z caBZ jn0Z jnBZ
 refine new_ok fun w1 m5 hm5 hs1 B1 F1 => ?_
 change Blk w1 m5 _ (vaCells k z o n ns ps) at B1
 have d0 : ∀ {K : Int → G} {R : Ending → World → Prop} {w' : World}, Fr noB w1 w' → K k R w' → ldG (.int .i64) ⟨m5, 0, none⟩ K R w' := fun F h => (B1.fr F (fun h => h)).ld (c := .int .i64) (o := 0) rfl h
 have d1 : ∀ {K : Int → G} {R : Ending → World → Prop} {w' : World}, Fr noB w1 w' → K z R w' → ldG (.int .i64) ⟨m5, 1, none⟩ K R w' := fun F h => (B1.fr F (fun h => h)).ld (c := .int .i64) (o := 1) rfl h
 have d2 : ∀ {K : ByteArray → G} {R : Ending → World → Prop} {w' : World}, Fr noB w1 w' → K o R w' → ldG .str ⟨m5, 2, none⟩ K R w' := fun F h => (B1.fr F (fun h => h)).ld (c := .str) (o := 2) rfl h
 have d3 : ∀ {K : ByteArray → G} {R : Ending → World → Prop} {w' : World}, Fr noB w1 w' → K n R w' → ldG .str ⟨m5, 3, none⟩ K R w' := fun F h => (B1.fr F (fun h => h)).ld (c := .str) (o := 3) rfl h
 have d4 : ∀ {K : Sl → G} {R : Ending → World → Prop} {w' : World}, Fr noB w1 w' → K ns R w' → ldG .slice ⟨m5, 4, none⟩ K R w' := fun F h => (B1.fr F (fun h => h)).ldS (o := 4) rfl h
 have d5 : ∀ {K : Sl → G} {R : Ending → World → Prop} {w' : World}, Fr noB w1 w' → K ps R w' → ldG .slice ⟨m5, 5, none⟩ K R w' := fun F h => (B1.fr F (fun h => h)).ldS (o := 5) rfl h
 have e3 : (((ns.n : Nat) : Int) == 0) = names.isEmpty := by rw [hnn]; exact len0 names
 have e4 : (((ps.n : Nat) : Int) == 0) = parts.isEmpty := by rw [hpn]; exact len0 parts
 have e1 : (((ps.n : Nat) : Int) == 1) = decide (parts.length = 1) := by
  rw [hpn, Bool.eq_iff_iff, beq_iff_eq, decide_eq_true_eq]
  omega
 have ez : (z == 0) = decide (z = 0) := by
  rw [Bool.eq_iff_iff, beq_iff_eq, decide_eq_true_eq]
 have R0 := Fr.refl noB w1
 generalize hT : vform (.mk (vk k z) (bl o) (bl n) names parts) = T
 unfold vform at hT
 simp only [] at hT
 rw [kOf_vk z1 z2, zOf_vk z1 z2] at hT
 refine join1_ok (c := .bool) (fun (b : Bool) w' => b = ((bl o).isEmpty && ((bl n).isEmpty && names.isEmpty)) ∧ w' = w1) (fun kj hkj => d2 R0 ?_) fun b w2 ⟨hb, hw⟩ => ?_
 ·rw [emp_bl]
  refine ite_ok (fun p1 => d3 R0 ?_) fun p1 => hkj _ _ ⟨by rw [p1]; rfl, rfl⟩
  rw [emp_bl]
  refine ite_ok (fun p2 => d4 R0 (hkj _ _ ⟨by rw [p1, p2, e3]; rfl, rfl⟩)) fun p2 => hkj _ _ ⟨by rw [p1, p2]; rfl, rfl⟩
 replace hw := hw.symm
 subst hw
 have done : ∀ {b : Bool} {w' : World}, b = T ∧ Fr noB w1 w' → retG (.bool b) (fun e w' => e = .returned (.bool T) ∧ Fr noB w w') w' := fun {b w'} ⟨h, F⟩ => ⟨by rw [h], F1.tr F⟩
 refine d5 R0 (d0 R0 (join0_ok (fun w' => w' = w1 ∧ k ≠ 1 ∧ k ≠ 2 ∧ k ≠ 3 ∧ k ≠ 4 ∧ k ≠ 5 ∧ k ≠ 6 ∧ k ≠ 7 ∧ k ≠ 8) (fun k14 hk14 => ?_) fun w' ⟨hw, h1, h2, h3, h4, h5, h6, h7, h8⟩ => ?_))
 rotate_left
 ·replace hw := hw.symm
  subst hw
  rw [if_neg h1, if_neg h2, if_neg h3, if_neg h4, if_neg h5, if_neg h6, if_neg h7, if_neg h8] at hT
  exact ⟨by rw [← hT], F1⟩
 have b3 : ((bl o).isEmpty && ((bl n).isEmpty && names.isEmpty)) = (((bl o).isEmpty && (bl n).isEmpty) && names.isEmpty) := (Bool.and_assoc ..).symm
 rw [b3] at hb
 refine ite_ok (fun h1 => ?_) fun h1 => ?_
 ·have h1 : k = 1 := by simpa using h1
  rw [if_pos h1, ← hb] at hT
  refine join1_ok (c := .bool) (fun (b : Bool) w' => b = T ∧ Fr noB w1 w') (fun kj hkj => ?_) fun b w' h => done h
  rw [e4]
  exact ite_ok (fun p => hkj _ _ ⟨by rw [← hT, p]; rfl, R0⟩) fun p => hkj _ _ ⟨by rw [← hT, p]; rfl, R0⟩
 have h1 : k ≠ 1 := by simpa using h1
 rw [if_neg h1] at hT
 refine ite_ok (fun h2 => ?_) fun h2 => ?_
 ·have h2 : k = 2 := by simpa using h2
  rw [if_pos h2] at hT
  have hT2 : T = ((bl o).isEmpty && (decide (z = 0) && (names.isEmpty && parts.isEmpty))) := by rw [← hT, Bool.and_assoc, Bool.and_assoc]
  refine join1_ok (c := .bool) (fun (b : Bool) w' => b = T ∧ Fr noB w1 w') (fun kj hkj => d2 R0 ?_) fun b w' h => done h
  rw [emp_bl]
  refine ite_ok (fun p1 => d1 R0 ?_) fun p1 => hkj _ _ ⟨by rw [hT2, p1]; rfl, R0⟩
  rw [ez]
  refine ite_ok (fun p2 => d4 R0 ?_) fun p2 => hkj _ _ ⟨by rw [hT2, p1, p2]; rfl, R0⟩
  rw [e3]
  exact ite_ok (fun p3 => hkj _ _ ⟨by rw [hT2, p1, p2, p3, e4]; rfl, R0⟩) fun p3 => hkj _ _ ⟨by rw [hT2, p1, p2, p3]; rfl, R0⟩
 have h2 : k ≠ 2 := by simpa using h2
 rw [if_neg h2] at hT
 refine ite_ok (fun h3 => ?_) fun h3 => ?_
 ·have h3 : k = 3 := by simpa using h3
  rw [if_pos h3, ← hb] at hT
  have ez1 : (decide (z = 0 ∨ z = 1)) = ((z == 0) || (z == 1)) := by
   rw [Bool.eq_iff_iff]
   simp
  have hT2 : T = (b && (parts.isEmpty && ((z == 0) || (z == 1)))) := by rw [← hT, ez1, Bool.and_assoc]
  refine join1_ok (c := .bool) (fun (b : Bool) w' => b = T ∧ Fr noB w1 w') (fun kj hkj => ?_) fun b w' h => done h
  rw [e4]
  exact ite_ok (fun p1 => ite_ok (fun p2 => d1 R0 (ite_ok (fun p3 => hkj _ _ ⟨by rw [hT2, p1, p2, p3]; rfl, R0⟩) fun p3 => d1 R0 (hkj _ _ ⟨by rw [hT2, p1, p2, p3]; rfl, R0⟩))) fun p2 => hkj _ _ ⟨by rw [hT2, p1, p2]; rfl, R0⟩) fun p1 => hkj _ _ ⟨by rw [hT2, p1]; rfl, R0⟩
 have h3 : k ≠ 3 := by simpa using h3
 rw [if_neg h3] at hT
 refine ite_ok (fun h4 => ?_) fun h4 => ?_
 ·have h4 : k = 4 := by simpa using h4
  rw [if_pos h4, ← hb] at hT
  refine join1_ok (c := .bool) (fun (b : Bool) w' => b = T ∧ Fr noB w1 w') (fun kj hkj => ?_) fun b w' h => done h
  exact ite_ok (fun p => d1 R0 (hkj _ _ ⟨by rw [← hT, p, ez]; rfl, R0⟩)) fun p => hkj _ _ ⟨by rw [← hT, p]; rfl, R0⟩
 have h4 : k ≠ 4 := by simpa using h4
 rw [if_neg h4] at hT
 refine ite_ok (fun h5 => ?_) fun h5 => ?_
 ·have h5 : k = 5 := by simpa using h5
  rw [if_pos h5] at hT
  have hT2 : T = ((bl o).isEmpty && ((bl n).isEmpty && (decide (z = 0) && ((names.all isName && decide names.Nodup) && decide (names.length = parts.length))))) := by
   rw [← hT]
   unfold namedOk
   generalize decide (names.length = parts.length) = x1
   generalize names.all isName = x2
   generalize decide names.Nodup = x3
   rw [Bool.and_assoc, Bool.and_assoc]
   cases x1 <;> cases x2 <;> cases x3 <;> rfl
  refine join1_ok (c := .bool) (fun (b : Bool) w' => b = T ∧ Fr noB w1 w') (fun kj hkj => d2 R0 ?_) fun b w' h => done h
  rw [emp_bl]
  refine ite_ok (fun p1 => d3 R0 ?_) fun p1 => hkj _ _ ⟨by rw [hT2, p1]; rfl, R0⟩
  rw [emp_bl]
  refine ite_ok (fun p2 => d1 R0 ?_) fun p2 => hkj _ _ ⟨by rw [hT2, p1, p2]; rfl, R0⟩
  rw [ez]
  refine ite_ok (fun p3 => d4 R0 (callB_ok (apart_ok (hns.fr F1) hnl hxl) fun w2 F2 => ite_ok (fun p4 => d4 F2 (d5 F2 (hkj _ _ ⟨?_, F2⟩))) fun p4 => hkj _ _ ⟨by rw [hT2, p1, p2, p3, p4]; rfl, F2⟩)) fun p3 => hkj _ _ ⟨by rw [hT2, p1, p2, p3]; rfl, R0⟩
  rw [hT2, p1, p2, p3, p4, hpn, hnn]
  simp only [Bool.true_and]
  rw [Bool.eq_iff_iff, beq_iff_eq, decide_eq_true_eq]
  omega
 have h5 : k ≠ 5 := by simpa using h5
 rw [if_neg h5] at hT
 refine ite_ok (fun h6 => ?_) fun h6 => ?_
 ·have h6 : k = 6 := by simpa using h6
  rw [if_pos h6] at hT
  have hT2 : T = ((bl o).isEmpty && (decide (z = 0) && (names.isEmpty && (isName (bl n) && decide (parts.length = 1))))) := by rw [← hT, Bool.and_assoc, Bool.and_assoc, Bool.and_assoc]
  refine join1_ok (c := .bool) (fun (b : Bool) w' => b = T ∧ Fr noB w1 w') (fun kj hkj => d2 R0 ?_) fun b w' h => done h
  rw [emp_bl]
  refine ite_ok (fun p1 => d1 R0 ?_) fun p1 => hkj _ _ ⟨by rw [hT2, p1]; rfl, R0⟩
  rw [ez]
  refine ite_ok (fun p2 => d4 R0 ?_) fun p2 => hkj _ _ ⟨by rw [hT2, p1, p2]; rfl, R0⟩
  rw [e3]
  exact ite_ok (fun p3 => d3 R0 (callB_ok (Name_ok n hnz) fun w2 F2 => ite_ok (fun p4 => d5 F2 (hkj _ _ ⟨by rw [hT2, p1, p2, p3, p4, e1]; rfl, F2⟩)) fun p4 => hkj _ _ ⟨by rw [hT2, p1, p2, p3, p4]; rfl, F2⟩)) fun p3 => hkj _ _ ⟨by rw [hT2, p1, p2, p3]; rfl, R0⟩
 have h6 : k ≠ 6 := by simpa using h6
 rw [if_neg h6] at hT
 refine ite_ok (fun h7 => ?_) fun h7 => ?_
 ·have h7 : k = 7 := by simpa using h7
  rw [if_pos h7] at hT
  have hT2 : T = (isName (bl o) && (isUpper (bl n) && (decide (z = 0) && (names.isEmpty && decide (parts.length = 1))))) := by rw [← hT, Bool.and_assoc, Bool.and_assoc, Bool.and_assoc]
  refine join1_ok (c := .bool) (fun (b : Bool) w' => b = T ∧ Fr noB w1 w') (fun kj hkj => d2 R0 ?_) fun b w' h => done h
  refine callB_ok (Name_ok o hos) fun w2 F2 => ite_ok (fun p1 => d3 F2 (callB_ok (Upper_ok n hnz) fun w3 F3 => ite_ok (fun p2 => d1 (F2.tr F3) ?_) fun p2 => hkj _ _ ⟨by rw [hT2, p1, p2]; rfl, F2.tr F3⟩)) fun p1 => hkj _ _ ⟨by rw [hT2, p1]; rfl, F2⟩
  rw [ez]
  refine ite_ok (fun p3 => d4 (F2.tr F3) ?_) fun p3 => hkj _ _ ⟨by rw [hT2, p1, p2, p3]; rfl, F2.tr F3⟩
  rw [e3]
  exact ite_ok (fun p4 => d5 (F2.tr F3) (hkj _ _ ⟨by rw [hT2, p1, p2, p3, p4, e1]; rfl, F2.tr F3⟩)) fun p4 => hkj _ _ ⟨by rw [hT2, p1, p2, p3, p4]; rfl, F2.tr F3⟩
 have h7 : k ≠ 7 := by simpa using h7
 rw [if_neg h7] at hT
 refine ite_ok (fun h8 => ?_) fun h8 => ?_
 ·have h8 : k = 8 := by simpa using h8
  rw [if_pos h8, ← hb] at hT
  have ez1 : (decide (0 ≤ z ∧ z ≤ 1000)) = (decide (z ≥ 0) && decide (z ≤ 1000)) := by
   rw [Bool.eq_iff_iff]
   simp
  have hT2 : T = (b && (parts.isEmpty && (decide (z ≥ 0) && decide (z ≤ 1000)))) := by rw [← hT, ez1, Bool.and_assoc]
  refine join1_ok (c := .bool) (fun (b : Bool) w' => b = T ∧ Fr noB w1 w') (fun kj hkj => ?_) fun b w' h => done h
  rw [e4]
  exact ite_ok (fun p1 => ite_ok (fun p2 => d1 R0 (ite_ok (fun p3 => d1 R0 (hkj _ _ ⟨by rw [hT2, p1, p2, p3]; rfl, R0⟩)) fun p3 => hkj _ _ ⟨by rw [hT2, p1, p2, p3]; rfl, R0⟩)) fun p2 => hkj _ _ ⟨by rw [hT2, p1, p2]; rfl, R0⟩) fun p1 => hkj _ _ ⟨by rw [hT2, p1]; rfl, R0⟩
 have h8 : k ≠ 8 := by simpa using h8
 exact hk14 _ ⟨rfl, h1, h2, h3, h4, h5, h6, h7, h8⟩
theorem resFormed : (resOf Tryz.prog 26).isSome = true := by kernel_rfl
theorem pformed_ok : ∀ (d : Nat) (s : Shape), size s ≤ d → ∀ {w : World} {k z : Int} {o n : ByteArray} {ns ps : Sl}, VaV w k z o n ns ps s → AnsB 26 #[vaArg k z o n ns ps] w (formed s)
 | 0, s, h, _, _, _, _, _, _, _, _ => by have := size_pos s; omega
 | d + 1, .mk q o' n' names parts, hd, w, k, z, o, n, ns, ps, hv => by
  rw [size_mk] at hd
  obtain ⟨_, _, _, ⟨_, _, _, hpn, hpl, _⟩, hps⟩ := hv.parts
  change ps.n = parts.length at hpn
  change parts.length < 4611686018427387904 at hpl
  change VaL w ps.a 0 parts at hps
  apply c26
  unfold t26 svZ ldLZ ld6mZ vaZ nw6Z caBZ jnBZ
  refine new_ok fun w1 m5 hm5 hs1 B1 F1 => ?_
  change Blk w1 m5 _ (vaCells k z o n ns ps) at B1
  have hf : formed (.mk q o' n' names parts) = (vform (.mk q o' n' names parts) && parts.all formed) := by rw [formed, formeds_all]
  refine join1_ok (c := .bool) (fun (b : Bool) w' => b = formed (.mk q o' n' names parts) ∧ Fr noB w w') (fun kj hkj => B1.ldW (callB_ok (pform_ok (hv.fr F1)) fun w2 F2 => ite_ok (fun h => ?_) fun h => hkj _ _ ⟨by rw [hf, h]; rfl, F1.tr F2⟩)) fun b w' ⟨hb, F⟩ => ⟨by rw [hb], F⟩
  refine (B1.fr F2 (fun h => h)).ldS (o := 5) rfl (callB_ok (everyV_ok (p := formed) (hps.fr (F1.tr F2)) hpn hpl ⟨_, #[], rfl, resFormed, fun w3 F3 k z o n ns ps s hv hs => ?_⟩) fun w4 F4 => hkj _ _ ⟨by rw [hf, h]; rfl, (F1.tr F2).tr F4⟩)
  rw [Array.append_empty]
  have := size_mem hs
  exact pformed_ok d s (by omega) hv
theorem PCheck_ok {w : World} {s : Shape} {k z : Int} {o n : ByteArray} {ns ps : Sl} (hv : VaV w k z o n ns ps s) : Calls Tryz.prog 9 #[vaArg k z o n ns ps] w fun e w' => e = .returned (.int .i64 ((vcheck s : Nat) : Int)) ∧ Fr noB w w' := by
 apply c9
 unfold t9 ivZ ld6mZ vaZ nw6Z caBZ caZ jn0Z
 refine new_ok fun w1 m5 hm5 hs1 B1 F1 => ?_
 change Blk w1 m5 _ (vaCells k z o n ns ps) at B1
 refine B1.ldW (call_ok (vcount_ok (hv.fr F1)) ?_)
 rintro e w2 ⟨rfl, F2⟩
 refine ⟨((_, ()), ((_, ()), ((_, ()), ()))), rfl, ?_⟩
 have F12 := F1.tr F2
 have B2 := B1.fr F2 (fun h => h)
 refine join0_ok (fun w' => vcheck s = 0 ∧ Fr noB w w') (fun kj hkj => ?_) fun w' ⟨h, F⟩ => ⟨by rw [h]; rfl, F⟩
 unfold vcheck at hkj ⊢
 by_cases h1 : 2000 < size s
 ·refine ite_yes (by rw [decide_eq_false (by omega)]; rfl) ⟨by rw [if_pos h1]; rfl, F12⟩
 rw [if_neg h1] at hkj ⊢
 refine ite_no (by rw [decide_eq_true (by omega)]; rfl) ?_
 rw [if_neg h1]
 by_cases h2 : 40 < deep s
 ·exact ite_yes (decide_eq_true (by omega)) ⟨by rw [if_pos h2]; rfl, F12⟩
 rw [if_neg h2] at hkj ⊢
 refine ite_no (decide_eq_false (by omega)) (B2.ldW (callB_ok (pformed_ok (size s) s (Nat.le_refl _) (hv.fr F12)) fun w3 F3 => ?_))
 by_cases hf : formed s = true
 ·exact ite_no (by rw [hf]; rfl) (hkj _ ⟨by rw [if_pos hf], F12.tr F3⟩)
 ·have hf' : formed s = false := by simpa using hf
  exact ite_yes (by rw [hf']; rfl) ⟨by rw [if_neg hf]; rfl, F12.tr F3⟩
theorem PSize_ok {w : World} {s : Shape} {k z : Int} {o n : ByteArray} {ns ps : Sl} (hv : VaV w k z o n ns ps s) : Calls Tryz.prog 11 #[vaArg k z o n ns ps] w fun e w' => e = .returned (.int .i64 (if 2000 < size s then 2001 else (size s : Int))) ∧ Fr noB w w' := by
 apply c11
 unfold t11 ivZ ld6mZ vaZ nw6Z caZ
 refine new_ok fun w1 m5 hm5 hs1 B1 F1 => ?_
 change Blk w1 m5 _ (vaCells k z o n ns ps) at B1
 refine B1.ldW (call_ok (vcount_ok (hv.fr F1)) ?_)
 rintro e w2 ⟨rfl, F2⟩
 exact ⟨((_, ()), ((_, ()), ((_, ()), ()))), rfl, rfl, F1.tr F2⟩
end Go.Proofs.YtngfnokbdcjoeaaGreatDoor
end
