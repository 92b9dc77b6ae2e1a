/- The law behind: one part of its proof (joined by program out of my own texts). No condition. -/
import Derived.Test.YticokfpaoiekgaaGreatDoorFdrAZ
import Derived.Sort.OwnSorted
import Derived.Shelf.Slices.In.SortNone
import Derived.Tactics
import Derived.Tactics2
import Derived.Defers
import Derived.Recover
import Derived.Laws.Pointers
import Derived.Test.YticokfpaoiekgaaGreatDoorChecked
section
namespace Go.Shp
open Go.Lex
theorem leB_antisymm {a b : B} (h : a ≤ b) (k : b ≤ a) : a = b := List.le_antisymm h k
theorem leB_trans {a b c : B} (h : a ≤ b) (k : b ≤ c) : a ≤ c := List.le_trans h k
theorem leB_total (a b : B) : a ≤ b ∨ b ≤ a := List.le_total a b
theorem sortB_pairwise (L : List B) : (L.mergeSort fun x y => decide (x ≤ y)).Pairwise (· ≤ ·) := by
 have := List.pairwise_mergeSort (le := fun x y : B => decide (x ≤ y)) (fun a b c h k => by
  rw [decide_eq_true_eq] at *
  exact leB_trans h k) (fun a b => by
  have := leB_total a b
  simpa using this) L
 exact this.imp fun h => by simpa using h
theorem compact_len {Z : List B} (hs : Z.Pairwise (· ≤ ·)) : (Lib.compact Z).length = Z.length ↔ Z.Nodup := by
 constructor
 ·intro h
  have hk : ∀ j, j < Z.length → Lib.keeps Z.toArray j = true := by
   unfold Lib.compact Lib.compactUpTo at h
   rw [List.length_map] at h
   have h2 : ((List.range Z.length).filter (Lib.keeps Z.toArray)).length = (List.range Z.length).length := by rw [h, List.length_range]
   rw [List.length_filter_eq_length_iff] at h2
   exact fun j hj => h2 j (List.mem_range.2 hj)
  rw [List.Nodup, List.pairwise_iff_getElem]
  intro i j hi hj hij e
  have hkj := hk j hj
  have hle : ∀ a b (ha : a < Z.length) (hb : b < Z.length), a ≤ b → Z[a] ≤ Z[b] := fun a b ha hb hab => by
   rcases Nat.lt_or_ge a b with h | h
   ·exact List.pairwise_iff_getElem.1 hs a b ha hb h
   ·have : a = b := by omega
    subst this
    exact List.le_refl _
  have h1 := hle i (j - 1) hi (by omega) (by omega)
  have h2 := hle (j - 1) j (by omega) hj (by omega)
  rw [e] at h1
  have h3 := leB_antisymm h1 h2
  unfold Lib.keeps at hkj
  rw [decide_eq_true_eq] at hkj
  rcases hkj with h | h
  ·omega
  ·apply h
   rw [getElem!_pos _ j (by simpa using hj), getElem!_pos _ (j - 1) (by simp; omega)]
   simpa using h3
 ·intro h
  rw [Lib.compact_all]
  intro j hj
  unfold Lib.keeps
  rw [decide_eq_true_eq]
  rcases Nat.eq_zero_or_pos j with h0 | h0
  ·exact .inl h0
  ·right
   rw [getElem!_pos _ j (by simpa using hj), getElem!_pos _ (j - 1) (by simp; omega)]
   intro e
   have e : Z[j] = Z[j - 1] := by simpa using e
   have := (List.getElem_inj (xs := Z) h).1 e
   omega
theorem compact_sort (L : List B) : (Lib.compact (L.mergeSort fun x y => decide (x ≤ y))).length = L.length ↔ L.Nodup := by
 have h := compact_len (sortB_pairwise L)
 rw [List.length_mergeSort] at h
 rw [h]
 exact (List.mergeSort_perm L _).nodup_iff
end Go.Shp
namespace Go.Proofs.YticokfpaoiekgaaGreatDoor
open Go.Lift Go.Lex Go.Shp
open Go.RowKit Go.Sort
theorem values_new (l : Sl) (w : World) : Calls Tryz.prog 117 #[.slice l.a l.n l.c] w fun e w' => ∃ m, e = .returned (.func (.func 155) #[] #[.pointer (some ⟨m, 0, none⟩)]) ∧ Blk w' m 22 [.slice l.a l.n l.c] ∧ Fr noB w w' := by
 apply c117
 unfold t117 svZ nwZ
 exact new_ok fun w1 m hm hs B F => ⟨m, rfl, B, F⟩
theorem below_fr {w w' : World} (h : Below w.heap.size w w') : Fr noB w w' := ⟨h.os, h.output, h.size, fun k hk _ => h.block k hk⟩
theorem collect_ok {w : World} {m : Nat} {l : Sl} {L : List B} (hl : L.length ≤ 1000) (B0 : Blk w m 22 [.slice l.a l.n l.c]) (hR : RdS w l (L.map bs)) :
  Calls Tryz.prog 153 #[.func (.func 155) #[] #[.pointer (some ⟨m, 0, none⟩)]] w fun e W' => ∃ r : Sl, e = .returned (.slice r.a r.n r.c) ∧ W'.ownsRow w.heap.size 9 1 (.slice r.a r.n r.c) L.length (L.map encStr) ∧ Fr noB w W' := by
 apply c153
 unfold t153 svZ caLZ
 refine call_ok (callsIn_wide.1 (appendSeq_in Fence.wide 3 trivial trivial rfl (Nat.le_refl _) m l L (by omega) w B0.lt (B0.cell (o := 0) rfl) hR)) ?_
 rintro e w' ⟨v, rfl, hrow, hb⟩
 obtain ⟨r, rfl⟩ : ∃ r : Sl, v = .slice r.a r.n r.c := by
  rcases hrow.2 with ⟨rfl, _⟩ | ⟨g, cap, cur, rfl, _⟩
  ·exact ⟨⟨none, 0, 0⟩, rfl⟩
  ·exact ⟨⟨_, _, _⟩, rfl⟩
 exact ⟨((r, ()), ()), rfl, r, rfl, hrow, below_fr hb⟩
theorem sorted_ok {w : World} {m : Nat} {l : Sl} {L : List B} (hl : L.length ≤ 1000) (B0 : Blk w m 22 [.slice l.a l.n l.c]) (hR : RdS w l (L.map bs)) :
  Calls Tryz.prog 116 #[.func (.func 155) #[] #[.pointer (some ⟨m, 0, none⟩)]] w fun e W' => ∃ r : Sl, e = .returned (.slice r.a r.n r.c) ∧ W'.ownsRow w.heap.size 9 1 (.slice r.a r.n r.c) L.length ((L.mergeSort fun x y => decide (x ≤ y)).map encStr) ∧ Fr noB w W' := by
 apply c116
 unfold t116 svZ ca0Z caLZ
 refine call_ok (collect_ok hl B0 hR) ?_
 rintro e w1 ⟨r, rfl, hrow, F⟩
 refine ⟨((r, ()), ()), rfl, ?_⟩
 show callG _ _ _ _ _ _ _
 rcases hrow.2 with ⟨he, hz⟩ | ⟨g, cap, cur, he, hbase, hgb, r1, r2, r3, r4⟩
 ·have hL : L = [] := List.eq_nil_of_length_eq_zero hz
  obtain ⟨a, n, c⟩ := r
  cases he
  refine call_ok (Any.slices_Sort_string_none Tryz.lays190 none 0 w1) ?_
  rintro e w2 ⟨rfl, rfl⟩
  refine ⟨(), rfl, ⟨⟨none, 0, 0⟩, rfl, ?_, F⟩⟩
  subst hL
  simpa using hrow
 ·obtain ⟨a, n, c⟩ := r
  cases he
  have hH : Holds encStr w1 g 0 L.toArray := holds_of_block hgb (by simpa using r4)
  have hgl : g < w1.heap.size := (Array.getElem?_eq_some_iff.1 hgb).1
  refine call_ok (Tryz.slices_Sort_string g 0 c L w1 hH hgl (by omega)) ?_
  rintro e w2 ⟨rfl, nn, os, rfl⟩
  refine ⟨(), rfl, ⟨⟨some ⟨g, 0, none⟩, L.length, c⟩, rfl, ownsRow_sorted (by simp) hbase hgb r1 r2 r3, ?_⟩⟩
  exact F.then (Fr.of_grown (grownBy_sorted _)) fun x hx h => by
   cases h
   omega
set_option maxHeartbeats 2000000 in
theorem snamedC : NamedC := by
 intro w k o n ns ps s hv hM
 obtain ⟨k', o', n', names, parts⟩ := s
 obtain ⟨_, _, _, ⟨hns, hnl, hpn, hpl, hos, hnz, hxl⟩, hps⟩ := hv.parts
 change RdS w ns (names.map bs) at hns
 change ps.n = parts.length at hpn
 change parts.length ≤ 1000 at hM
 change ∀ x ∈ names, x.length < 4611686018427387904 at hxl
 have hnn := hns.1
 rw [List.length_map] at hnn
 show AnsB 90 #[shArg k o n ns ps] w (namedOk names parts.length)
 apply c90
 unfold t90 wrZ tvZ svZ ldSZ ldLZ nw5Z caBZ caLZ caZ jn0Z lpIZ ixZ
 refine new_ok fun w1 m5 hm5 hs1 B1 F1 => ?_
 change Blk w1 m5 _ (shCells k o n ns ps) at B1
 refine B1.ldS (o := 3) rfl (B1.ldS (o := 4) rfl ?_)
 refine ite_ok (fun h => ⟨?_, F1⟩) fun h => ?_
 ·have h : ¬ ((ns.n : Nat) : Int) = ((ps.n : Nat) : Int) := by simpa using h
  have : namedOk names parts.length = false := by
   unfold namedOk
   rw [decide_eq_false (by omega)]
   rfl
  rw [this]
 have h : ((ns.n : Nat) : Int) = ((ps.n : Nat) : Int) := by simpa using h
 have hlen : names.length = parts.length := by omega
 have hno : namedOk names parts.length = (names.all isName && decide names.Nodup) := by
  unfold namedOk
  rw [decide_eq_true hlen, Bool.true_and]
 rw [hno]
 refine B1.ldS (o := 3) rfl ?_
 refine join0_ok (fun w' => names.all isName = true ∧ Fr noB w1 w') (fun kend hkend => ?_) (fun w2 ⟨ha, F2⟩ => ?_)
 ·refine countL_ok names.length (by omega) (fun i w' => (∀ (j : Nat) s, j < i → names[j]? = some s → isName s = true) ∧ Fr noB w1 w') (fun rec i w3 hi hI hrec => ?_) ⟨fun j s h => by omega, Fr.refl _ _⟩
  obtain ⟨hdone, F3⟩ := hI
  refine ite_ok (fun hlt => ?_) fun hge => hkend _ ⟨?_, F3⟩
  ·have hlt : (i : Int) < (ns.n : Int) := of_decide_eq_true hlt
   obtain ⟨x, hx⟩ : ∃ x, names[i]? = some x := ⟨_, List.getElem?_eq_getElem (by omega)⟩
   refine join_in (vs := []) (str_ld (hns.fr (F1.tr F3)) hx (callB_ok (Name_ok (bs x) ?_) fun w4 F4 => ?_))
   ·have := hxl x (List.mem_of_getElem? hx)
    show x.toArray.size < _
    simpa using this
   ·rw [bl_bs]
    by_cases hok : isName x = true
    ·refine ite_no (by rw [hok]; rfl) (hrec (by omega) _ ⟨fun j y hj hy => ?_, F3.tr F4⟩)
     rcases Nat.lt_succ_iff_lt_or_eq.1 hj with hj | rfl
     ·exact hdone j y hj hy
     ·rw [hx] at hy
      cases hy
      exact hok
    ·refine ite_yes (by simpa using hok) ⟨?_, F1.tr (F3.tr F4)⟩
     have : names.all isName = false := by
      rw [Bool.eq_false_iff]
      intro h
      exact hok (List.all_eq_true.1 h x (List.mem_of_getElem? hx))
     rw [this]
     rfl
  ·have hge : ¬ (i : Int) < (ns.n : Int) := of_decide_eq_false hge
   rw [List.all_eq_true]
   intro x hx
   obtain ⟨j, hj⟩ := List.mem_iff_getElem?.1 hx
   have := (List.getElem?_eq_some_iff.1 hj).1
   exact hdone j x (by omega) hj
 rw [ha, Bool.true_and]
 have B2 := B1.fr F2 (fun h => h)
 refine B2.ldS (o := 3) rfl (call_ok (values_new ns w2) ?_)
 rintro e w3 ⟨m, rfl, C3, F3⟩
 refine ⟨((_, ()), ()), rfl, ?_⟩
 have G3 := F1.tr (F2.tr F3)
 refine call_ok (sorted_ok (by omega) C3 (hns.fr G3)) ?_
 rintro e w4 ⟨r, rfl, hrow, F4⟩
 refine ⟨((r, ()), ()), rfl, ?_⟩
 refine drew_ok fun w4' F4' z4' => ?_
 have B4 := (B2.fr (F3.tr (F4.tr F4')) (fun h => h))
 have G4 := (G3.tr F4).tr F4'
 refine B4.ldS (o := 3) rfl ?_
 have fin : ∀ (r2 : Sl) w5, w5.cell? ⟨m5, 3, none⟩ = some (.slice ns.a ns.n ns.c) → Fr noB w w5 → (r2.n = names.length ↔ names.Nodup) → (keepG [(⟨m5, 3, none⟩, [.slice ns.a ns.n ns.c])] (retG (.bool (((r2.n : Nat) : Int) == ((ns.n : Nat) : Int))))) (fun e w' => e = .returned (.bool (decide names.Nodup)) ∧ Fr noB w w') w5 := by
  intro r2 w5 B5 F5 hr
  refine keep_cons (held_one B5) (keep_nil ⟨?_, F5⟩)
  have : (((r2.n : Nat) : Int) == ((ns.n : Nat) : Int)) = decide names.Nodup := by
   rw [Bool.eq_iff_iff, beq_iff_eq, decide_eq_true_eq, ← hr]
   omega
  rw [this]
 have hsrt := compact_sort names
 rcases hrow.2 with ⟨he, hz⟩ | ⟨g, cap, cur, he, hbase, hgb, r1, r2, r3, r4⟩
 ·have hL : names = [] := List.eq_nil_of_length_eq_zero (by simpa using hz)
  obtain ⟨a, nn, c⟩ := r
  cases he
  refine call_ok (Tryz.slices_Compact_string_empty none 0 w4') ?_
  rintro e w5 ⟨rfl, rfl⟩
  exact ⟨((⟨none, 0, 0⟩, ()), ()), rfl, fin ⟨none, 0, 0⟩ _ (B4.cell (o := 3) rfl) G4 (by subst hL; simp)⟩
 ·obtain ⟨a, nn, c⟩ := r
  cases he
  have hzl : (names.mergeSort fun x y => decide (x ≤ y)).length = names.length := List.length_mergeSort _
  have hgb' : w4'.heap[g]? = some (.cells cur 9 (0, 0)) := by
   rw [F4'.blk g (Array.getElem?_eq_some_iff.1 hgb).1 (fun h => h)]
   exact hgb
  have hH : Holds encStr w4' g 0 (names.mergeSort fun x y => decide (x ≤ y)).toArray := holds_of_block hgb' (by rw [hzl]; simpa using r4)
  have hcc := Tryz.slices_Compact_string g 0 c (names.mergeSort fun x y => decide (x ≤ y)) w4' hH (by omega) (hzl ▸ r1)
  rw [hzl] at hcc
  refine call_ok hcc ?_
  rintro e w5 ⟨rfl, q, rfl⟩
  have hgr := Fr.of_grown (grownBy_sorted (w := w4') (g := g) (n := q) (os := #[]) (Lib.compact (names.mergeSort fun x y => decide (x ≤ y)) ++ List.replicate (names.length - (Lib.compact (names.mergeSort fun x y => decide (x ≤ y))).length) []).toArray)
  rw [grow_empty] at hgr
  have hg1 : w3.heap.size ≤ g := hbase
  have hm := B2.fr F3 (fun h => h) |>.lt
  have hgs : g ≠ m5 := by omega
  have hw3 := G3.size
  exact ⟨((⟨some ⟨g, 0, none⟩, _, c⟩, ()), ()), rfl, fin ⟨some ⟨g, 0, none⟩, _, c⟩ _ ((B4.fr hgr (fun h => hgs (by cases h; rfl))).cell (o := 3) rfl) (G4.then hgr fun x hx h => by cases h; omega) hsrt⟩
end Go.Proofs.YticokfpaoiekgaaGreatDoor
end
section
namespace Go.Shp
theorem sizes_take {l : List Shape} {i : Nat} {s : Shape} (h : l[i]? = some s) : sizes (l.take (i + 1)) = sizes (l.take i) + size s := by
 induction l generalizing i with
 | nil => simp at h
 | cons x r ih =>
  cases i with
  | zero =>
   simp only [List.getElem?_cons_zero, Option.some.injEq] at h
   subst h
   simp only [List.take_succ_cons, List.take_zero, sizes]
   omega
  | succ i =>
   rw [List.take_succ_cons, List.take_succ_cons, sizes, sizes, ih (by simpa using h), Nat.add_assoc]
theorem sizes_take_le (l : List Shape) (i : Nat) : sizes (l.take i) ≤ sizes l := by
 induction l generalizing i with
 | nil => simp
 | cons x r ih =>
  cases i with
  | zero => rw [List.take_zero, sizes]; omega
  | succ i => have := ih i; rw [List.take_succ_cons, sizes, sizes]; omega
end Go.Shp
namespace Go.Lift
theorem Fr.ob {a b : World} {m : Nat} (h : Fr noB a b) : Fr (oneB m) a b := h.mono fun _ _ h => h.elim
end Go.Lift
namespace Go.Proofs.YticokfpaoiekgaaGreatDoor
open Go.Lift Go.Lex Go.Shp
def fullC : List PanicEntry := [{ v := .iface 102 (.agg #[]), recovered := false }]
def MetP (b : Nat) (T : TypeId) (c m : Nat) (v : Value) (w : World) (e : Ending) (w' : World) : Prop :=
 Fr (oneB b) w w' ∧ ((c + m ≤ 400 ∧ e = .returned v ∧ Blk w' b T [.int .i64 ((c + m : Nat) : Int)]) ∨ (400 < c + m ∧ e = .panicked fullC ∧ ∃ x : Int, Blk w' b T [.int .i64 x]))
theorem smeet_ok {w : World} {b : Nat} {T : TypeId} {c : Nat} (B : Blk w b T [.int .i64 (c : Int)]) (hc : c ≤ 400) : Calls Tryz.prog 89 #[.pointer (some ⟨b, 0, none⟩)] w (MetP b T c 1 (.tuple #[]) w) := by
 apply c89
 unfold t89 wrZ ivZ ldIZ jn0Z
 refine B.ld (c := .int .i64) (x := (c : Int)) (o := 0) rfl (B.st rfl (by simp) fun w1 B1 F1 => ?_)
 have ew : IntKind.wrap .i64 ((c : Int) + 1) = ((c + 1 : Nat) : Int) := by rw [wrap_ok (by omega) (by omega)]; omega
 rw [ew] at B1
 refine B1.ld (c := .int .i64) (x := ((c + 1 : Nat) : Int)) (o := 0) rfl (join_in (vs := []) (ite_ok (fun h => ?_) fun h => ?_))
 ·have h : ((c + 1 : Nat) : Int) > 400 := of_decide_eq_true h
  exact ⟨⟨_, _, rfl⟩, F1, .inr ⟨by omega, rfl, _, B1⟩⟩
 ·have h : ¬ ((c + 1 : Nat) : Int) > 400 := of_decide_eq_false h
  exact ⟨F1, .inl ⟨by omega, rfl, B1⟩⟩
theorem resMeet : (resOf Tryz.prog 89).isSome = true := by kernel_rfl
theorem swalk_ok : ∀ (d : Nat) (s : Shape), size s ≤ d → ∀ {w0 w : World} {b : Nat} {T : TypeId} {c lv : Nat} {k : Int} {o n : ByteArray} {ns ps : Sl}, ShV w0 k o n ns ps s → Fr noB w0 w → w0.heap.size ≤ b → Blk w b T [.int .i64 (c : Int)] → c ≤ 400 → lv ≤ c + 1 →
  Calls Tryz.prog 88 #[shArg k o n ns ps, .int .i64 (lv : Int), .func (.func 89) #[] #[.pointer (some ⟨b, 0, none⟩)]] w (MetP b T c (size s) (.int .i64 ((lv + deep s - 1 : Nat) : Int)) w)
 | 0, s, h, _, _, _, _, _, _, _, _, _, _, _, _, _, _, _, _, _ => by have := size_pos s; omega
 | d + 1, .mk k' o' n' names parts, hd, w0, w, b, T, c, lv, k, o, n, ns, ps, hv, F0, hb, B, hc, hlv => by
  rw [size_mk] at hd
  obtain ⟨_, _, _, ⟨_, _, hpn, hpl, _⟩, hps⟩ := hv.parts
  change ps.n = parts.length at hpn
  change parts.length < _ at hpl
  change ShL w0 ps.a 0 parts at hps
  have hbl := B.lt
  apply c88
  unfold t88 wrZ ivZ shZ ldLZ ld5mZ ld5xZ st5Z nw5Z nz5Z caIZ jnIZ lpIIZ ixZ
  refine new_ok fun w1 m7 hm7 hs1 C1 F1 => ?_
  change Blk w1 m7 _ (shCells k o n ns ps) at C1
  have B1 := B.fr F1 (fun h => h)
  refine ⟨_, #[], _, rfl, resMeet, ?_⟩
  refine (smeet_ok B1 hc).mono ?_
  rintro e w2 ⟨F2, ⟨hle, rfl, B2⟩ | ⟨hgt, rfl, x, B2⟩⟩
  rotate_left
  ·exact .inr ⟨_, rfl, st_fr F1.ob F2, .inr ⟨by rw [size_mk]; omega, rfl, x, B2⟩⟩
  refine .inl ⟨(), rfl, ?_⟩
  have G2 := st_fr F1.ob F2
  refine (C1.fr F2 (show ¬ m7 = b by omega)).ldS (o := 4) rfl ?_
  refine join1_ok (c := .int .i64) (fun (y : Int) w' => y = ((lv + deeps parts : Nat) : Int) ∧ c + 1 + sizes parts ≤ 400 ∧ Fr (oneB b) w w' ∧ Blk w' b T [.int .i64 ((c + 1 + sizes parts : Nat) : Int)]) (fun kend hkend => ?_) ?_
  rotate_left
  ·rintro y w' ⟨rfl, hle', G, B'⟩
   refine ⟨G, .inl ⟨by rw [size_mk]; omega, ?_, ?_⟩⟩
   ·rw [deep_mk]
    congr 3
    omega
   ·rw [size_mk, show c + (1 + sizes parts) = c + 1 + sizes parts by omega]
    exact B'
  refine loop_ok (vs := [.one (.int .i64), .one (.int .i64)]) (fun xs w' => ∃ i : Nat, i ≤ parts.length ∧ (show Int from xs.2.1.1) = (i : Int) ∧ (show Int from xs.1.1) = ((lv + deeps (parts.take i) : Nat) : Int) ∧ c + 1 + sizes (parts.take i) ≤ 400 ∧ Fr (oneB b) w w' ∧ Blk w' b T [.int .i64 ((c + 1 + sizes (parts.take i) : Nat) : Int)])
   (fun xs => parts.length - (show Int from xs.2.1.1).toNat) ?_ (xs := (((lv : Int), ()), (((0 : Int), ()), ()))) ⟨0, Nat.zero_le _, rfl, by rw [List.take_zero, deeps]; rfl, by rw [List.take_zero, sizes]; omega, G2, by rw [List.take_zero, sizes]; exact B2⟩
  rintro rec ⟨⟨y, ⟨⟩⟩, ⟨⟨z, ⟨⟩⟩, ⟨⟩⟩⟩ w3 ⟨i, hi, hz, hy, hle3, G3, B3⟩ hrec
  change z = (i : Int) at hz
  change y = _ at hy
  subst hz hy
  refine ite_ok (fun hlt => ?_) fun hge => ?_
  ·have hlt : (i : Int) < (ps.n : Int) := of_decide_eq_true hlt
   obtain ⟨s, hs⟩ : ∃ s, parts[i]? = some s := ⟨_, List.getElem?_eq_getElem (by omega)⟩
   have hsz := size_mem (List.mem_of_getElem? hs)
   have K3 : Fr noB w0 w3 := F0.then G3 (fun x hx hxb => by unfold oneB at hxb; omega)
   have hds := deep_pos s
   have hdz := deep_size s
   have hdt := deeps_sizes (parts.take i)
   have e1 := sizes_take hs
   have e2 := deeps_take hs
   have hle4 := sizes_take_le parts (i + 1)
   refine join_in (vs := [.one (.int .i64)]) (part_ld0 hps K3 hs hpn fun k1 o1 n1 ns1 ps1 hv1 => new_ok fun w4 m24 hm24 hs4 B4 F4 => fill_ok B4 rfl rfl rfl rfl rfl rfl fun w5 B5 F5 => ?_)
   change Blk w5 m24 _ (shCells k1 o1 n1 ns1 ps1) at B5
   have hsz3 := G3.size
   have F35 : Fr noB w3 w5 := F4.fill (by omega) F5
   have ew : IntKind.wrap .i64 ((lv : Int) + 1) = ((lv + 1 : Nat) : Int) := by rw [wrap_ok (by omega) (by omega)]; omega
   rw [ew]
   refine B5.ldV (callPan_ok (swalk_ok d s (by omega) hv1 (K3.tr F35) hb (B3.fr F35 fun h => h) hle3 (by omega)) ?_)
   rintro e w6 ⟨F6, ⟨hle6, rfl, B6⟩ | ⟨hgt, rfl, x, B6⟩⟩
   ·refine .inl ⟨((_, ()), ()), rfl, ?_⟩
    have G6 := st_fr (st_fr G3 F35.ob) F6
    have ew2 : IntKind.wrap .i64 ((i : Int) + 1) = ((i + 1 : Nat) : Int) := by rw [wrap_ok (by omega) (by omega)]; omega
    refine hrec ((_, ()), ((_, ()), ())) _ ⟨i + 1, by omega, ew2, ?_, by omega, G6, ?_⟩ ?_
    ·rw [e2]
     show (if ((lv + 1 + deep s - 1 : Nat) : Int) > ((lv + deeps (parts.take i) : Nat) : Int) then ((lv + 1 + deep s - 1 : Nat) : Int) else ((lv + deeps (parts.take i) : Nat) : Int)) = _
     split <;> omega
    ·rw [e1, show c + 1 + (sizes (parts.take i) + size s) = c + 1 + sizes (parts.take i) + size s by omega]
     exact B6
    ·show parts.length - (IntKind.wrap .i64 ((i : Int) + 1)).toNat < parts.length - (i : Int).toNat
     rw [ew2]
     simp only [Int.toNat_natCast]
     omega
   ·exact .inr ⟨_, rfl, st_fr (st_fr G3 F35.ob) F6, .inr ⟨by rw [size_mk]; omega, rfl, x, B6⟩⟩
  ·have hge : ¬ (i : Int) < (ps.n : Int) := of_decide_eq_false hge
   have : i = parts.length := by omega
   subst this
   rw [List.take_length] at hle3 B3 ⊢
   exact hkend _ _ ⟨rfl, hle3, G3, B3⟩
end Go.Proofs.YticokfpaoiekgaaGreatDoor
end
section
namespace Go.Proofs.YticokfpaoiekgaaGreatDoor
open Go.Lift Go.Lex Go.Shp
theorem opB_ok {P : Program} {s : Sem Value} {k : Bool → G} {R : Ending → World → Prop} {w : World} (b : Bool) (hr : s.run P w = .ok (.bool b) w) (h : k b R w) : opG P s (.one .bool) k R w := ⟨(b, ()), w, hr, h⟩
def behindC : Option Code → Code
 | some (.seq _ c) => c
 | _ => .skip
def catchEnv (b0 b1 b2 : Nat) : Env := [(0, .v (.pointer (some ⟨b0, 0, none⟩))), (1, .v (.pointer (some ⟨b1, 0, none⟩))), (2, .v (.pointer (some ⟨b2, 0, none⟩))), (3, .v (.iface 102 (.agg #[])))]
theorem catchGet {b0 b1 b2 t : Nat} {e : EV} (h : (catchEnv b0 b1 b2).get t = some e) : (t = 0 ∧ e = .v (.pointer (some ⟨b0, 0, none⟩))) ∨ (t = 1 ∧ e = .v (.pointer (some ⟨b1, 0, none⟩))) ∨ (t = 2 ∧ e = .v (.pointer (some ⟨b2, 0, none⟩))) ∨ (t = 3 ∧ e = .v (.iface 102 (.agg #[]))) := by
 unfold catchEnv at h
 simp only [Env.get] at h
 cases h0 : Nat.beq 0 t with
 | true => rw [h0] at h; cases h; exact .inl ⟨(Nat.eq_of_beq_eq_true h0).symm, rfl⟩
 | false =>
  rw [h0] at h
  cases h1 : Nat.beq 1 t with
  | true => rw [h1] at h; cases h; exact .inr (.inl ⟨(Nat.eq_of_beq_eq_true h1).symm, rfl⟩)
  | false =>
   rw [h1] at h
   cases h2 : Nat.beq 2 t with
   | true => rw [h2] at h; cases h; exact .inr (.inr (.inl ⟨(Nat.eq_of_beq_eq_true h2).symm, rfl⟩))
   | false =>
    rw [h2] at h
    cases h3 : Nat.beq 3 t with
    | true => rw [h3] at h; cases h; exact .inr (.inr (.inr ⟨(Nat.eq_of_beq_eq_true h3).symm, rfl⟩))
    | false => rw [h3] at h; cases h
def catchK : Ex → Env → G := fun e _ => match e with
 | .exit _ => failG "exit"
 | _ => retG (.tuple #[])
theorem catchE (b0 b1 b2 : Nat) : den Tryz.prog (GA Tryz.prog) 17 (behindC Tryz.f87.body) .leaf [] (catchEnv b0 b1 b2) catchK =
  opG Tryz.prog (eqSem .neq 20 (.tmp 7) (.const .nilIface) (.iface 102 (.agg #[])) .nilIface) (.one .bool) (fun (b : Bool) => iteG b (newG (.cells #[] 102 (0, 0)) (fun _ => stG ⟨b0, 0, none⟩ (.int .i64 401) (stG ⟨b1, 0, none⟩ (.int .i64 0) (stG ⟨b2, 0, none⟩ (.bool false) (retG (.tuple #[])))))) (retG (.tuple #[]))) := by kernel_rfl
theorem catch_full {b0 b1 b2 : Nat} {T U V : TypeId} {x y : Int} {z : Bool} {w : World} (B0 : Blk w b0 T [.int .i64 x]) (B1 : Blk w b1 U [.int .i64 y]) (B2 : Blk w b2 V [.bool z]) (h01 : b0 ≠ b1) (h02 : b0 ≠ b2) (h12 : b1 ≠ b2) :
  CallsD Tryz.prog 87 #[.pointer (some ⟨b0, 0, none⟩), .pointer (some ⟨b1, 0, none⟩), .pointer (some ⟨b2, 0, none⟩)] (.panicking fullC) w fun e u' w' =>
   e = .returned (.tuple #[]) ∧ (∃ v, u' = .panicking [{ v := v, recovered := true }]) ∧ Blk w' b0 T [.int .i64 401] ∧ Blk w' b1 U [.int .i64 0] ∧ Blk w' b2 V [.bool false] ∧ Fr (fun k => k = b0 ∨ k = b1 ∨ k = b2) w w' := by
 refine callsD_of_wpS Tryz.func87 rfl fun c₀ cs hu => ?_
 unfold fullC at hu
 apply wpS_seq
 apply wpS_region
 simp [wpOpsS, go_sem, recoverD, hu, Tryz.ntmps87, Exit.thenS]
 change Code.wpS Tryz.prog (behindC Tryz.f87.body) _ _ _ _
 refine wpS_of_wp ?_
 refine wp_mono (den_ok (D := []) (n := 17) (R := fun e w' => e = .returned (.tuple #[]) ∧ Blk w' b0 T [.int .i64 401] ∧ Blk w' b1 U [.int .i64 0] ∧ Blk w' b2 V [.bool false] ∧ Fr (fun k => k = b0 ∨ k = b1 ∨ k = b2) w w') mixed _ .leaf [] (catchEnv b0 b1 b2) catchK _ _ ?_ ?_) ?_
 ·rw [catchE]
  refine opB_ok true (by simp [eqSem, go_sem]) (ite_yes rfl ?_)
  refine new_ok fun w1 m hm hs1 _ F1 => ?_
  refine (B0.fr F1 fun h => h).st rfl (by simp) fun w2 C0 F2 => ((B1.fr F1 fun h => h).fr F2 (by unfold oneB; omega)).st rfl (by simp) fun w3 C1 F3 => (((B2.fr F1 fun h => h).fr F2 (by unfold oneB; omega)).fr F3 (by unfold oneB; omega)).st rfl (by simp) fun w4 C2 F4 => ?_
  refine ⟨rfl, (C0.fr F3 (by unfold oneB; omega)).fr F4 (by unfold oneB; omega), C1.fr F4 (by unfold oneB; omega), C2, ?_⟩
  have K1 : Fr (fun k => k = b0 ∨ k = b1 ∨ k = b2) w w1 := F1.mono fun _ _ h => h.elim
  have K2 : Fr (fun k => k = b0 ∨ k = b1 ∨ k = b2) w1 w2 := F2.mono fun _ _ h => .inl h
  have K3 : Fr (fun k => k = b0 ∨ k = b1 ∨ k = b2) w2 w3 := F3.mono fun _ _ h => .inr (.inl h)
  have K4 : Fr (fun k => k = b0 ∨ k = b1 ∨ k = b2) w3 w4 := F4.mono fun _ _ h => .inr (.inr h)
  exact ((K1.then K2 fun _ _ h => h).then K3 fun _ _ h => h).then K4 fun _ _ h => h
 ·refine ⟨by simp, rfl, fun t e h => ?_⟩
  rcases catchGet h with ⟨rfl, rfl⟩ | ⟨rfl, rfl⟩ | ⟨rfl, rfl⟩ | ⟨rfl, rfl⟩ <;> simp [EV.val]
 ·rintro e a' w' q
  cases e with
  | normal =>
   obtain ⟨env', h1, _, h3⟩ := q
   obtain ⟨he, r⟩ := h3
   exact ⟨h1.defers, _, rfl, _, results_none rfl _ _ _, rfl, ⟨_, rfl⟩, r⟩
  | ret =>
   obtain ⟨env', h1, _, h3⟩ := q
   obtain ⟨he, r⟩ := h3
   exact ⟨h1.defers, _, rfl, _, results_none rfl _ _ _, rfl, ⟨_, rfl⟩, r⟩
  | panic c => cases q.2.2.1
  | exit id => obtain ⟨_, _, _, h3⟩ := q; exact h3.elim
  | _ => exact q.elim
theorem catch_none {p0 p1 p2 : Value} {w : World} :
  CallsD Tryz.prog 87 #[p0, p1, p2] .returning w fun e u' w' => e = .returned (.tuple #[]) ∧ u' = .returning ∧ w' = w := by
 refine callsD_of_wpS Tryz.func87 rfl fun c₀ cs hu => ?_
 apply wpS_seq
 apply wpS_region
 simp [wpOpsS, go_sem, recoverD, hu, Tryz.ntmps87, Exit.thenS]
 apply wpS_seq
 apply wpS_region
 simp [wpOpsS, go_sem, Exit.thenS]
 refine wpS_cond (t := false) (by simp [Act.eval, Array.replicate]) ?_
 simp only [Bool.false_eq_true, if_false]
 refine wpS_of_wp (wp_skip ?_)
 refine ⟨rfl, _, rfl, _, results_none rfl _ _ _, rfl, ?_, rfl⟩
 first | rfl | exact hu
def countEnv (h : Nat) : Env := [(1, .v (.pointer (some ⟨h, 0, none⟩))), (2, .v (.pointer (some ⟨h + 1, 0, none⟩))), (3, .v (.pointer (some ⟨h + 1 + 1, 0, none⟩))), (4, .v (.pointer (some ⟨h + 1 + 1 + 1, 0, none⟩)))]
theorem countGet {h t : Nat} {e : EV} (hg : (countEnv h).get t = some e) : (t = 1 ∧ e = .v (.pointer (some ⟨h, 0, none⟩))) ∨ (t = 2 ∧ e = .v (.pointer (some ⟨h + 1, 0, none⟩))) ∨ (t = 3 ∧ e = .v (.pointer (some ⟨h + 1 + 1, 0, none⟩))) ∨ (t = 4 ∧ e = .v (.pointer (some ⟨h + 1 + 1 + 1, 0, none⟩))) := by
 unfold countEnv at hg
 simp only [Env.get] at hg
 cases h0 : Nat.beq 1 t with
 | true => rw [h0] at hg; cases hg; exact .inl ⟨(Nat.eq_of_beq_eq_true h0).symm, rfl⟩
 | false =>
  rw [h0] at hg
  cases h1 : Nat.beq 2 t with
  | true => rw [h1] at hg; cases hg; exact .inr (.inl ⟨(Nat.eq_of_beq_eq_true h1).symm, rfl⟩)
  | false =>
   rw [h1] at hg
   cases h2 : Nat.beq 3 t with
   | true => rw [h2] at hg; cases hg; exact .inr (.inr (.inl ⟨(Nat.eq_of_beq_eq_true h2).symm, rfl⟩))
   | false =>
    rw [h2] at hg
    cases h3 : Nat.beq 4 t with
    | true => rw [h3] at hg; cases hg; exact .inr (.inr (.inr ⟨(Nat.eq_of_beq_eq_true h3).symm, rfl⟩))
    | false => rw [h3] at hg; cases hg
theorem countE (h : Nat) : den Tryz.prog (GA Tryz.prog) 11 (behindC (some (behindC Tryz.f60.body))) .leaf [2, 3, 4] (countEnv h) catchK =
  ldG (.int .i64) ⟨h, 0, none⟩ (fun (k : Int) => ldG .str ⟨h, 1, none⟩ (fun (o : ByteArray) => ldG .str ⟨h, 2, none⟩ (fun (n : ByteArray) => ldG .slice ⟨h, 3, none⟩ (fun (ns : Sl) => ldG .slice ⟨h, 4, none⟩ (fun (ps : Sl) =>
   callG Tryz.prog 88 #[shArg k o n ns ps, .int .i64 1, .func (.func 89) #[] #[.pointer (some ⟨h + 1, 0, none⟩)]] [.one (.int .i64)] (fun (d : Int) => stG ⟨h + 1 + 1, 0, none⟩ (.int .i64 d) (drewG
    (ldG (.int .i64) ⟨h + 1, 0, none⟩ (fun (x : Int) => ldG (.int .i64) ⟨h + 1 + 1, 0, none⟩ (fun (y : Int) => stG ⟨h + 1, 0, none⟩ (.int .i64 x) (keepG [(⟨h + 1 + 1, 0, none⟩, [.int .i64 y])] (stG ⟨h + 1 + 1, 0, none⟩ (.int .i64 y) (stG ⟨h + 1 + 1 + 1, 0, none⟩ (.bool true) (retG (.tuple #[]))))))))))))))) := by kernel_rfl
theorem countRes {tmps : Array Value} {w : World} {b0 b1 b2 : Nat} {T U V : TypeId} {x y : Int} {z : Bool} (h2 : tmps.getD 2 undef = .pointer (some ⟨b0, 0, none⟩)) (h3 : tmps.getD 3 undef = .pointer (some ⟨b1, 0, none⟩)) (h4 : tmps.getD 4 undef = .pointer (some ⟨b2, 0, none⟩))
  (B0 : Blk w b0 T [.int .i64 x]) (B1 : Blk w b1 U [.int .i64 y]) (B2 : Blk w b2 V [.bool z]) : (results Tryz.f60 tmps).run Tryz.prog w = .ok (.tuple #[.int .i64 x, .int .i64 y, .bool z]) w := by
 have c0 := B0.cell (o := 0) rfl
 have c1 := B1.cell (o := 0) rfl
 have c2 := B2.cell (o := 0) rfl
 have hr : Tryz.f60.results = #[.cell 2 3, .cell 3 3, .cell 4 4] := rfl
 rw [results_eq, hr]
 simp [resV, h2, h3, h4, c0, c1, c2, go_sem]
theorem scount_ok {w : World} {k : Int} {o n : ByteArray} {ns ps : Sl} {s : Shape} (hv : ShV w k o n ns ps s) : Calls Tryz.prog 60 #[shArg k o n ns ps] w fun e w' => e = .returned (.tuple #[.int .i64 (if 400 < size s then 401 else (size s : Int)), .int .i64 (if 400 < size s then 0 else (deep s : Int)), .bool (decide (size s ≤ 400))]) ∧ Fr noB w w' := by
 have hmf : ∀ (fn : Fn) (first cap : Array Value) (w : World), (Instr.makeFunc fn first cap).run Tryz.prog w = .ok (.func fn first cap) w := fun _ _ _ _ => rfl
 go_enter_defers Tryz.func60, Tryz.ntmps60
 apply wp_seq
 apply wp_region_list
 simp [wpList, Oper.wp, go_sem, Exit.then]
 repeat refine Or.inl ?_
 apply wp_seq
 apply wp_region_list
 simp [wpList, Oper.wp, go_sem, Exit.then]
 repeat refine Or.inl ?_
 change Code.wp _ (behindC (some (behindC Tryz.f60.body))) _ _ _
 have A0 : Blk (w.alloc (.cells #[.int .i64 k, .string o, .string n, .slice ns.a ns.n ns.c, .slice ps.a ps.n ps.c] 25)) w.heap.size 25 (shCells k o n ns ps) := blk_alloc w _ _
 have G0 := fr_alloc w (.cells #[.int .i64 k, .string o, .string n, .slice ns.a ns.n ns.c, .slice ps.a ps.n ps.c] 25)
 have z0 : (w.alloc (.cells #[.int .i64 k, .string o, .string n, .slice ns.a ns.n ns.c, .slice ps.a ps.n ps.c] 25)).heap.size = w.heap.size + 1 := by simp
 generalize w.alloc (.cells #[.int .i64 k, .string o, .string n, .slice ns.a ns.n ns.c, .slice ps.a ps.n ps.c] 25) = w0 at A0 G0 z0 ⊢
 have A1 := blk_alloc w0 #[.int .i64 0] 3
 have G1 := fr_alloc w0 (.cells #[.int .i64 0] 3)
 have z1 : (w0.alloc (.cells #[.int .i64 0] 3)).heap.size = w.heap.size + 1 + 1 := by simp [z0]
 rw [z0] at A1
 replace A0 := A0.fr G1 fun h => h
 replace G1 := G0.tr G1
 generalize w0.alloc (.cells #[.int .i64 0] 3) = w1 at A0 A1 G1 z1 ⊢
 have A2 := blk_alloc w1 #[.int .i64 0] 3
 have G2 := fr_alloc w1 (.cells #[.int .i64 0] 3)
 have z2 : (w1.alloc (.cells #[.int .i64 0] 3)).heap.size = w.heap.size + 1 + 1 + 1 := by simp [z1]
 rw [z1] at A2
 replace A0 := A0.fr G2 fun h => h
 replace A1 := A1.fr G2 fun h => h
 replace G2 := G1.tr G2
 generalize w1.alloc (.cells #[.int .i64 0] 3) = w2 at A0 A1 A2 G2 z2 ⊢
 have A3 := blk_alloc w2 #[.bool false] 4
 have G3 := fr_alloc w2 (.cells #[.bool false] 4)
 rw [z2] at A3
 replace A0 := A0.fr G3 fun h => h
 replace A1 := A1.fr G3 fun h => h
 replace A2 := A2.fr G3 fun h => h
 replace G3 := G2.tr G3
 generalize w2.alloc (.cells #[.bool false] 4) = w3 at A0 A1 A2 A3 G3 ⊢
 clear G0 G1 G2 z0 z1 z2 w0 w1 w2
 refine wp_mono (den_ok (n := 11) (D := [{ target := .fn (.func 87) #[.pointer (some ⟨w.heap.size + 1, 0, none⟩), .pointer (some ⟨w.heap.size + 1 + 1, 0, none⟩), .pointer (some ⟨w.heap.size + 1 + 1 + 1, 0, none⟩)], args := #[] }])
  (R := fun e w' => Fr noB w w' ∧ ((size s ≤ 400 ∧ e = .returned (.tuple #[]) ∧ Blk w' (w.heap.size + 1) 3 [.int .i64 (size s : Int)] ∧ Blk w' (w.heap.size + 1 + 1) 3 [.int .i64 (deep s : Int)] ∧ Blk w' (w.heap.size + 1 + 1 + 1) 4 [.bool true]) ∨
   (400 < size s ∧ e = .panicked fullC ∧ ∃ (x y : Int) (z : Bool), Blk w' (w.heap.size + 1) 3 [.int .i64 x] ∧ Blk w' (w.heap.size + 1 + 1) 3 [.int .i64 y] ∧ Blk w' (w.heap.size + 1 + 1 + 1) 4 [.bool z]))) mixed _ .leaf [2, 3, 4] (countEnv w.heap.size) catchK _ _ ?_ ?_) ?_
 ·rw [countE]
  refine A0.ldV (callPan_ok (swalk_ok (size s) s (Nat.le_refl _) (c := 0) (lv := 1) hv G3 (by omega) A1 (by omega) (by omega)) ?_)
  rintro e w4 ⟨F4, ⟨hle, rfl, B1⟩ | ⟨hgt, rfl, x, B1⟩⟩
  ·refine .inl ⟨((_, ()), ()), rfl, ?_⟩
   have B2 := A2.fr F4 (by unfold oneB; omega)
   have B3 := A3.fr F4 (by unfold oneB; omega)
   have K4 : Fr noB w w4 := G3.then F4 fun x hx h => by unfold oneB at h; omega
   refine B2.st rfl (by simp) fun w5 C2 F5 => drew_ok fun w6 F6 z6 => ?_
   have C1 := (B1.fr F5 (by unfold oneB; omega)).fr F6 fun h => h
   have C3 := (B3.fr F5 (by unfold oneB; omega)).fr F6 fun h => h
   replace C2 := C2.fr F6 fun h => h
   refine C1.ld (c := .int .i64) (o := 0) rfl (C2.ld (c := .int .i64) (o := 0) rfl (C1.st rfl (by simp) fun w7 E1 F7 => ?_))
   have E2 := C2.fr F7 (by unfold oneB; omega)
   have E3 := C3.fr F7 (by unfold oneB; omega)
   refine keep_cons (E2.held1 rfl) (keep_nil (E2.st rfl (by simp) fun w8 H2 F8 => ?_))
   have H1 := E1.fr F8 (by unfold oneB; omega)
   have H3 := E3.fr F8 (by unfold oneB; omega)
   refine H3.st rfl (by simp) fun w9 J3 F9 => ?_
   have J1 := H1.fr F9 (by unfold oneB; omega)
   have J2 := H2.fr F9 (by unfold oneB; omega)
   have K9 : Fr noB w w9 := ((((K4.then F5 fun x hx h => by unfold oneB at h; omega).tr F6).then F7 fun x hx h => by unfold oneB at h; omega).then F8 fun x hx h => by unfold oneB at h; omega).then F9 fun x hx h => by unfold oneB at h; omega
   have e1 : 1 + deep s - 1 = deep s := by omega
   rw [e1] at J2
   rw [Nat.zero_add] at J1
   exact ⟨K9, .inl ⟨by omega, rfl, J1, J2, J3⟩⟩
  ·refine .inr ⟨_, rfl, G3.then F4 (fun x hx h => by unfold oneB at h; omega), .inr ⟨by omega, rfl, x, 0, false, B1, A2.fr F4 (by unfold oneB; omega), A3.fr F4 (by unfold oneB; omega)⟩⟩
 ·refine ⟨by simp, rfl, fun t e h => ?_⟩
  rcases countGet h with ⟨rfl, rfl⟩ | ⟨rfl, rfl⟩ | ⟨rfl, rfl⟩ | ⟨rfl, rfl⟩ <;> simp [EV.val]
 ·have hK : ∀ a' : Act, Kept [2, 3, 4] { tmps := #[shArg k o n ns ps, .pointer (some ⟨w.heap.size, 0, none⟩), .pointer (some ⟨w.heap.size + 1, 0, none⟩), .pointer (some ⟨w.heap.size + 1 + 1, 0, none⟩), .pointer (some ⟨w.heap.size + 1 + 1 + 1, 0, none⟩), .func (.func 87) #[] #[.pointer (some ⟨w.heap.size + 1, 0, none⟩), .pointer (some ⟨w.heap.size + 1 + 1, 0, none⟩), .pointer (some ⟨w.heap.size + 1 + 1 + 1, 0, none⟩)], undef, undef, undef, undef, undef], defers := [{ target := .fn (.func 87) #[.pointer (some ⟨w.heap.size + 1, 0, none⟩), .pointer (some ⟨w.heap.size + 1 + 1, 0, none⟩), .pointer (some ⟨w.heap.size + 1 + 1 + 1, 0, none⟩)], args := #[] }] } a' →
    a'.tmps.getD 2 undef = .pointer (some ⟨w.heap.size + 1, 0, none⟩) ∧ a'.tmps.getD 3 undef = .pointer (some ⟨w.heap.size + 1 + 1, 0, none⟩) ∧ a'.tmps.getD 4 undef = .pointer (some ⟨w.heap.size + 1 + 1 + 1, 0, none⟩) := fun a' h => ⟨h 2 rfl, h 3 rfl, h 4 rfl⟩
  have fin : ∀ (a' : Act) (w' : World), a'.defers = [{ target := .fn (.func 87) #[.pointer (some ⟨w.heap.size + 1, 0, none⟩), .pointer (some ⟨w.heap.size + 1 + 1, 0, none⟩), .pointer (some ⟨w.heap.size + 1 + 1 + 1, 0, none⟩)], args := #[] }] →
    (a'.tmps.getD 2 undef = .pointer (some ⟨w.heap.size + 1, 0, none⟩) ∧ a'.tmps.getD 3 undef = .pointer (some ⟨w.heap.size + 1 + 1, 0, none⟩) ∧ a'.tmps.getD 4 undef = .pointer (some ⟨w.heap.size + 1 + 1 + 1, 0, none⟩)) →
    Fr noB w w' → size s ≤ 400 → Blk w' (w.heap.size + 1) 3 [.int .i64 (size s : Int)] → Blk w' (w.heap.size + 1 + 1) 3 [.int .i64 (deep s : Int)] → Blk w' (w.heap.size + 1 + 1 + 1) 4 [.bool true] →
    Leaves Tryz.prog Tryz.f60 a'.tmps (fun e w' => e = .returned (.tuple #[.int .i64 (if 400 < size s then 401 else (size s : Int)), .int .i64 (if 400 < size s then 0 else (deep s : Int)), .bool (decide (size s ≤ 400))]) ∧ Fr noB w w') a'.defers .returning w' := by
   intro a' w' hd ⟨t2, t3, t4⟩ F hle B1 B2 B3
   rw [hd]
   refine leaves_cons (f := 87) (args := #[.pointer (some ⟨w.heap.size + 1, 0, none⟩), .pointer (some ⟨w.heap.size + 1 + 1, 0, none⟩), .pointer (some ⟨w.heap.size + 1 + 1 + 1, 0, none⟩)]) (by simp) (by simp [go_sem]) ?_
   refine catch_none.mono ?_
   rintro e u' w'' ⟨rfl, rfl, rfl⟩
   refine ⟨_, countRes t2 t3 t4 B1 B2 B3, ?_, F⟩
   rw [if_neg (by omega), if_neg (by omega), decide_eq_true hle]
  rintro e a' w' q
  cases e with
  | normal =>
   obtain ⟨env', h1, h2, h3⟩ := q
   obtain ⟨F, ⟨hle, _, B1, B2, B3⟩ | ⟨_, h4, _⟩⟩ := h3
   ·exact fin a' w' h1.defers (hK _ h2) F hle B1 B2 B3
   ·cases h4
  | ret =>
   obtain ⟨env', h1, h2, h3⟩ := q
   obtain ⟨F, ⟨hle, _, B1, B2, B3⟩ | ⟨_, h4, _⟩⟩ := h3
   ·exact fin a' w' h1.defers (hK _ h2) F hle B1 B2 B3
   ·cases h4
  | panic c =>
   obtain ⟨hd, hk, F, ⟨_, h4, _⟩ | ⟨hgt, h4, x, y, z, B1, B2, B3⟩⟩ := q
   ·cases h4
   cases h4
   obtain ⟨t2, t3, t4⟩ := hK _ hk
   show Leaves _ _ _ _ a'.defers _ _
   rw [hd]
   refine leaves_cons (f := 87) (args := #[.pointer (some ⟨w.heap.size + 1, 0, none⟩), .pointer (some ⟨w.heap.size + 1 + 1, 0, none⟩), .pointer (some ⟨w.heap.size + 1 + 1 + 1, 0, none⟩)]) (by simp) (by simp [go_sem]) ?_
   refine (catch_full B1 B2 B3 (by omega) (by omega) (by omega)).mono ?_
   rintro e u' w'' ⟨rfl, ⟨v, rfl⟩, C1, C2, C3, F2⟩
   refine ⟨_, countRes t2 t3 t4 C1 C2 C3, ?_, F.then F2 fun x hx h => ?_⟩
   ·rw [if_pos hgt, if_pos hgt, decide_eq_false (by omega)]
   ·show False
    omega
  | exit id => obtain ⟨_, _, _, h3⟩ := q; exact h3.elim
  | _ => exact q.elim
theorem scountC : CountC := fun hv => scount_ok hv
end Go.Proofs.YticokfpaoiekgaaGreatDoor
end
