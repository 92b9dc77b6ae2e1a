/- The finder law behind FRanksCard: one part of its proof (joined by program out of my own texts). No condition. -/
import Derived.Test.YticokfpaoiekgaaGreatDoorFRkBC
import Derived.Sort.OwnSorted
import Derived.Shelf.Slices.In.SortNone
section
namespace Go.Shp
open Go.Lex
theorem leB_antisymm {a b : B} (h : a ≤ b) (k : b ≤ a) : a = b := List.le_antisymm h k
theorem leB_trans {a b c : B} (h : a ≤ b) (k : b ≤ c) : a ≤ c := List.le_trans h k
theorem leB_total (a b : B) : a ≤ b ∨ b ≤ a := List.le_total a b
theorem sortB_pairwise (L : List B) : (L.mergeSort fun x y => decide (x ≤ y)).Pairwise (· ≤ ·) := by
  have := List.pairwise_mergeSort (le := fun x y : B => decide (x ≤ y)) (fun a b c h k => by
    rw [decide_eq_true_eq] at *
    exact leB_trans h k) (fun a b => by
    have := leB_total a b
    simpa using this) L
  exact this.imp fun h => by simpa using h
theorem compact_len {Z : List B} (hs : Z.Pairwise (· ≤ ·)) : (Lib.compact Z).length = Z.length ↔ Z.Nodup := by
  constructor
  · intro h
    have hk : ∀ j, j < Z.length → Lib.keeps Z.toArray j = true := by
      unfold Lib.compact Lib.compactUpTo at h
      rw [List.length_map] at h
      have h2 : ((List.range Z.length).filter (Lib.keeps Z.toArray)).length = (List.range Z.length).length := by rw [h, List.length_range]
      rw [List.length_filter_eq_length_iff] at h2
      exact fun j hj => h2 j (List.mem_range.2 hj)
    rw [List.Nodup, List.pairwise_iff_getElem]
    intro i j hi hj hij e
    have hkj := hk j hj
    have hle : ∀ a b (ha : a < Z.length) (hb : b < Z.length), a ≤ b → Z[a] ≤ Z[b] := fun a b ha hb hab => by
      rcases Nat.lt_or_ge a b with h | h
      · exact List.pairwise_iff_getElem.1 hs a b ha hb h
      · have : a = b := by omega
        subst this
        exact List.le_refl _
    have h1 := hle i (j - 1) hi (by omega) (by omega)
    have h2 := hle (j - 1) j (by omega) hj (by omega)
    rw [e] at h1
    have h3 := leB_antisymm h1 h2
    unfold Lib.keeps at hkj
    rw [decide_eq_true_eq] at hkj
    rcases hkj with h | h
    · omega
    · apply h
      rw [getElem!_pos _ j (by simpa using hj), getElem!_pos _ (j - 1) (by simp; omega)]
      simpa using h3
  · intro h
    rw [Lib.compact_all]
    intro j hj
    unfold Lib.keeps
    rw [decide_eq_true_eq]
    rcases Nat.eq_zero_or_pos j with h0 | h0
    · exact .inl h0
    · right
      rw [getElem!_pos _ j (by simpa using hj), getElem!_pos _ (j - 1) (by simp; omega)]
      intro e
      have e : Z[j] = Z[j - 1] := by simpa using e
      have := (List.getElem_inj (xs := Z) h).1 e
      omega
theorem compact_sort (L : List B) : (Lib.compact (L.mergeSort fun x y => decide (x ≤ y))).length = L.length ↔ L.Nodup := by
  have h := compact_len (sortB_pairwise L)
  rw [List.length_mergeSort] at h
  rw [h]
  exact (List.mergeSort_perm L _).nodup_iff
end Go.Shp
namespace Go.Proofs.YticokfpaoiekgaaGreatDoor
open Go.Lift Go.Lex Go.Shp
open Go.RowKit Go.Sort
theorem values_new (l : Sl) (w : World) : Calls Tryz.prog 117 #[.slice l.a l.n l.c] w fun e w' => ∃ m, e = .returned (.func (.func 155) #[] #[.pointer (some ⟨m, 0, none⟩)]) ∧ Blk w' m 22 [.slice l.a l.n l.c] ∧ Fr noB w w' := by
  apply c117
  unfold t117
  exact new_ok fun w1 m hm hs B F => ⟨m, rfl, B, F⟩
theorem below_fr {w w' : World} (h : Below w.heap.size w w') : Fr noB w w' := ⟨h.os, h.output, h.size, fun k hk _ => h.block k hk⟩
theorem collect_ok {w : World} {m : Nat} {l : Sl} {L : List B} (hl : L.length ≤ 1000) (B0 : Blk w m 22 [.slice l.a l.n l.c]) (hR : RdS w l (L.map bs)) :
    Calls Tryz.prog 153 #[.func (.func 155) #[] #[.pointer (some ⟨m, 0, none⟩)]] w fun e W' => ∃ r : Sl, e = .returned (.slice r.a r.n r.c) ∧ W'.ownsRow w.heap.size 9 1 (.slice r.a r.n r.c) L.length (L.map encStr) ∧ Fr noB w W' := by
  apply c153
  unfold t153
  refine call_ok (callsIn_wide.1 (appendSeq_in Fence.wide 3 trivial trivial rfl (Nat.le_refl _) m l L (by omega) w B0.lt (B0.cell (o := 0) rfl) hR)) ?_
  rintro e w' ⟨v, rfl, hrow, hb⟩
  obtain ⟨r, rfl⟩ : ∃ r : Sl, v = .slice r.a r.n r.c := by
    rcases hrow.2 with ⟨rfl, _⟩ | ⟨g, cap, cur, rfl, _⟩
    · exact ⟨⟨none, 0, 0⟩, rfl⟩
    · exact ⟨⟨_, _, _⟩, rfl⟩
  exact ⟨((r, ()), ()), rfl, r, rfl, hrow, below_fr hb⟩
theorem sorted_ok {w : World} {m : Nat} {l : Sl} {L : List B} (hl : L.length ≤ 1000) (B0 : Blk w m 22 [.slice l.a l.n l.c]) (hR : RdS w l (L.map bs)) :
    Calls Tryz.prog 116 #[.func (.func 155) #[] #[.pointer (some ⟨m, 0, none⟩)]] w fun e W' => ∃ r : Sl, e = .returned (.slice r.a r.n r.c) ∧ W'.ownsRow w.heap.size 9 1 (.slice r.a r.n r.c) L.length ((L.mergeSort fun x y => decide (x ≤ y)).map encStr) ∧ Fr noB w W' := by
  apply c116
  unfold t116
  refine call_ok (collect_ok hl B0 hR) ?_
  rintro e w1 ⟨r, rfl, hrow, F⟩
  refine ⟨((r, ()), ()), rfl, ?_⟩
  show callG _ _ _ _ _ _ _
  rcases hrow.2 with ⟨he, hz⟩ | ⟨g, cap, cur, he, hbase, hgb, r1, r2, r3, r4⟩
  · have hL : L = [] := List.eq_nil_of_length_eq_zero hz
    obtain ⟨a, n, c⟩ := r
    cases he
    refine call_ok (Any.slices_Sort_string_none Tryz.lays190 none 0 w1) ?_
    rintro e w2 ⟨rfl, rfl⟩
    refine ⟨(), rfl, ⟨⟨none, 0, 0⟩, rfl, ?_, F⟩⟩
    subst hL
    simpa using hrow
  · obtain ⟨a, n, c⟩ := r
    cases he
    have hH : Holds encStr w1 g 0 L.toArray := holds_of_block hgb (by simpa using r4)
    have hgl : g < w1.heap.size := (Array.getElem?_eq_some_iff.1 hgb).1
    refine call_ok (Tryz.slices_Sort_string g 0 c L w1 hH hgl (by omega)) ?_
    rintro e w2 ⟨rfl, nn, os, rfl⟩
    refine ⟨(), rfl, ⟨⟨some ⟨g, 0, none⟩, L.length, c⟩, rfl, ownsRow_sorted (by simp) hbase hgb r1 r2 r3, ?_⟩⟩
    exact F.then (Fr.of_grown (grownBy_sorted _)) fun x hx h => by
      cases h
      omega
set_option maxHeartbeats 2000000 in
theorem snamedC : NamedC := by
  intro w k o n ns ps s hv hM
  obtain ⟨k', o', n', names, parts⟩ := s
  obtain ⟨_, _, _, ⟨hns, hnl, hpn, hpl, hos, hnz, hxl⟩, hps⟩ := hv.parts
  change RdS w ns (names.map bs) at hns
  change ps.n = parts.length at hpn
  change parts.length ≤ 1000 at hM
  change ∀ x ∈ names, x.length < 4611686018427387904 at hxl
  have hnn := hns.1
  rw [List.length_map] at hnn
  show AnsB 90 #[shArg k o n ns ps] w (namedOk names parts.length)
  apply c90
  unfold t90
  refine new_ok fun w1 m5 hm5 hs1 B1 F1 => ?_
  change Blk w1 m5 _ (shCells k o n ns ps) at B1
  refine B1.ldS (o := 3) rfl (B1.ldS (o := 4) rfl ?_)
  refine ite_ok (fun h => ⟨?_, F1⟩) fun h => ?_
  · have h : ¬ ((ns.n : Nat) : Int) = ((ps.n : Nat) : Int) := by simpa using h
    have : namedOk names parts.length = false := by
      unfold namedOk
      rw [decide_eq_false (by omega)]
      rfl
    rw [this]
  have h : ((ns.n : Nat) : Int) = ((ps.n : Nat) : Int) := by simpa using h
  have hlen : names.length = parts.length := by omega
  have hno : namedOk names parts.length = (names.all isName && decide names.Nodup) := by
    unfold namedOk
    rw [decide_eq_true hlen, Bool.true_and]
  rw [hno]
  refine B1.ldS (o := 3) rfl ?_
  refine join0_ok (fun w' => names.all isName = true ∧ Fr noB w1 w') (fun kend hkend => ?_) (fun w2 ⟨ha, F2⟩ => ?_)
  · refine countL_ok names.length (by omega) (fun i w' => (∀ (j : Nat) s, j < i → names[j]? = some s → isName s = true) ∧ Fr noB w1 w') (fun rec i w3 hi hI hrec => ?_) ⟨fun j s h => by omega, Fr.refl _ _⟩
    obtain ⟨hdone, F3⟩ := hI
    refine ite_ok (fun hlt => ?_) fun hge => hkend _ ⟨?_, F3⟩
    · have hlt : (i : Int) < (ns.n : Int) := of_decide_eq_true hlt
      obtain ⟨x, hx⟩ : ∃ x, names[i]? = some x := ⟨_, List.getElem?_eq_getElem (by omega)⟩
      refine join_in (vs := []) (str_ld (hns.fr (F1.tr F3)) hx (callB_ok (Name_ok (bs x) ?_) fun w4 F4 => ?_))
      · have := hxl x (List.mem_of_getElem? hx)
        show x.toArray.size < _
        simpa using this
      · rw [bl_bs]
        by_cases hok : isName x = true
        · refine ite_no (by rw [hok]; rfl) (hrec (by omega) _ ⟨fun j y hj hy => ?_, F3.tr F4⟩)
          rcases Nat.lt_succ_iff_lt_or_eq.1 hj with hj | rfl
          · exact hdone j y hj hy
          · rw [hx] at hy
            cases hy
            exact hok
        · refine ite_yes (by simpa using hok) ⟨?_, F1.tr (F3.tr F4)⟩
          have : names.all isName = false := by
            rw [Bool.eq_false_iff]
            intro h
            exact hok (List.all_eq_true.1 h x (List.mem_of_getElem? hx))
          rw [this]
          rfl
    · have hge : ¬ (i : Int) < (ns.n : Int) := of_decide_eq_false hge
      rw [List.all_eq_true]
      intro x hx
      obtain ⟨j, hj⟩ := List.mem_iff_getElem?.1 hx
      have := (List.getElem?_eq_some_iff.1 hj).1
      exact hdone j x (by omega) hj
  rw [ha, Bool.true_and]
  have B2 := B1.fr F2 (fun h => h)
  refine B2.ldS (o := 3) rfl (call_ok (values_new ns w2) ?_)
  rintro e w3 ⟨m, rfl, C3, F3⟩
  refine ⟨((_, ()), ()), rfl, ?_⟩
  have G3 := F1.tr (F2.tr F3)
  refine call_ok (sorted_ok (by omega) C3 (hns.fr G3)) ?_
  rintro e w4 ⟨r, rfl, hrow, F4⟩
  refine ⟨((r, ()), ()), rfl, ?_⟩
  refine drew_ok fun w4' F4' z4' => ?_
  have B4 := (B2.fr (F3.tr (F4.tr F4')) (fun h => h))
  have G4 := (G3.tr F4).tr F4'
  refine B4.ldS (o := 3) rfl ?_
  have fin : ∀ (r2 : Sl) w5, w5.cell? ⟨m5, 3, none⟩ = some (.slice ns.a ns.n ns.c) → Fr noB w w5 → (r2.n = names.length ↔ names.Nodup) → (keepG [(⟨m5, 3, none⟩, [.slice ns.a ns.n ns.c])] (retG (.bool (((r2.n : Nat) : Int) == ((ns.n : Nat) : Int))))) (fun e w' => e = .returned (.bool (decide names.Nodup)) ∧ Fr noB w w') w5 := by
    intro r2 w5 B5 F5 hr
    refine keep_cons (held_one B5) (keep_nil ⟨?_, F5⟩)
    have : (((r2.n : Nat) : Int) == ((ns.n : Nat) : Int)) = decide names.Nodup := by
      rw [Bool.eq_iff_iff, beq_iff_eq, decide_eq_true_eq, ← hr]
      omega
    rw [this]
  have hsrt := compact_sort names
  rcases hrow.2 with ⟨he, hz⟩ | ⟨g, cap, cur, he, hbase, hgb, r1, r2, r3, r4⟩
  · have hL : names = [] := List.eq_nil_of_length_eq_zero (by simpa using hz)
    obtain ⟨a, nn, c⟩ := r
    cases he
    refine call_ok (Tryz.slices_Compact_string_empty none 0 w4') ?_
    rintro e w5 ⟨rfl, rfl⟩
    exact ⟨((⟨none, 0, 0⟩, ()), ()), rfl, fin ⟨none, 0, 0⟩ _ (B4.cell (o := 3) rfl) G4 (by subst hL; simp)⟩
  · obtain ⟨a, nn, c⟩ := r
    cases he
    have hzl : (names.mergeSort fun x y => decide (x ≤ y)).length = names.length := List.length_mergeSort _
    have hgb' : w4'.heap[g]? = some (.cells cur 9 (0, 0)) := by
      rw [F4'.blk g (Array.getElem?_eq_some_iff.1 hgb).1 (fun h => h)]
      exact hgb
    have hH : Holds encStr w4' g 0 (names.mergeSort fun x y => decide (x ≤ y)).toArray := holds_of_block hgb' (by rw [hzl]; simpa using r4)
    have hcc := Tryz.slices_Compact_string g 0 c (names.mergeSort fun x y => decide (x ≤ y)) w4' hH (by omega) (hzl ▸ r1)
    rw [hzl] at hcc
    refine call_ok hcc ?_
    rintro e w5 ⟨rfl, q, rfl⟩
    have hgr := Fr.of_grown (grownBy_sorted (w := w4') (g := g) (n := q) (os := #[]) (Lib.compact (names.mergeSort fun x y => decide (x ≤ y)) ++ List.replicate (names.length - (Lib.compact (names.mergeSort fun x y => decide (x ≤ y))).length) []).toArray)
    rw [grow_empty] at hgr
    have hg1 : w3.heap.size ≤ g := hbase
    have hm := B2.fr F3 (fun h => h) |>.lt
    have hgs : g ≠ m5 := by omega
    have hw3 := G3.size
    exact ⟨((⟨some ⟨g, 0, none⟩, _, c⟩, ()), ()), rfl, fin ⟨some ⟨g, 0, none⟩, _, c⟩ _ ((B4.fr hgr (fun h => hgs (by cases h; rfl))).cell (o := 3) rfl) (G4.then hgr fun x hx h => by cases h; omega) hsrt⟩
end Go.Proofs.YticokfpaoiekgaaGreatDoor
end
section
namespace Go.Shp
theorem sizes_take {l : List Shape} {i : Nat} {s : Shape} (h : l[i]? = some s) : sizes (l.take (i + 1)) = sizes (l.take i) + size s := by
  induction l generalizing i with
  | nil => simp at h
  | cons x r ih =>
    cases i with
    | zero =>
      simp only [List.getElem?_cons_zero, Option.some.injEq] at h
      subst h
      simp only [List.take_succ_cons, List.take_zero, sizes]
      omega
    | succ i =>
      rw [List.take_succ_cons, List.take_succ_cons, sizes, sizes, ih (by simpa using h), Nat.add_assoc]
theorem sizes_take_le (l : List Shape) (i : Nat) : sizes (l.take i) ≤ sizes l := by
  induction l generalizing i with
  | nil => simp
  | cons x r ih =>
    cases i with
    | zero => rw [List.take_zero, sizes]; omega
    | succ i => have := ih i; rw [List.take_succ_cons, sizes, sizes]; omega
end Go.Shp
namespace Go.Lift
theorem Fr.ob {a b : World} {m : Nat} (h : Fr noB a b) : Fr (oneB m) a b := h.mono fun _ _ h => h.elim
end Go.Lift
namespace Go.Proofs.YticokfpaoiekgaaGreatDoor
open Go.Lift Go.Lex Go.Shp
def fullC : List PanicEntry := [{ v := .iface 102 (.agg #[]), recovered := false }]
def MetP (b : Nat) (T : TypeId) (c m : Nat) (v : Value) (w : World) (e : Ending) (w' : World) : Prop :=
  Fr (oneB b) w w' ∧ ((c + m ≤ 400 ∧ e = .returned v ∧ Blk w' b T [.int .i64 ((c + m : Nat) : Int)]) ∨ (400 < c + m ∧ e = .panicked fullC ∧ ∃ x : Int, Blk w' b T [.int .i64 x]))
theorem smeet_ok {w : World} {b : Nat} {T : TypeId} {c : Nat} (B : Blk w b T [.int .i64 (c : Int)]) (hc : c ≤ 400) : Calls Tryz.prog 89 #[.pointer (some ⟨b, 0, none⟩)] w (MetP b T c 1 (.tuple #[]) w) := by
  apply c89
  unfold t89
  refine B.ld (c := .int .i64) (x := (c : Int)) (o := 0) rfl (B.st rfl (by simp) fun w1 B1 F1 => ?_)
  have ew : IntKind.wrap .i64 ((c : Int) + 1) = ((c + 1 : Nat) : Int) := by rw [wrap_ok (by omega) (by omega)]; omega
  rw [ew] at B1
  refine B1.ld (c := .int .i64) (x := ((c + 1 : Nat) : Int)) (o := 0) rfl (join_in (vs := []) (ite_ok (fun h => ?_) fun h => ?_))
  · have h : ((c + 1 : Nat) : Int) > 400 := of_decide_eq_true h
    exact ⟨⟨_, _, rfl⟩, F1, .inr ⟨by omega, rfl, _, B1⟩⟩
  · have h : ¬ ((c + 1 : Nat) : Int) > 400 := of_decide_eq_false h
    exact ⟨F1, .inl ⟨by omega, rfl, B1⟩⟩
theorem resMeet : (resOf Tryz.prog 89).isSome = true := by kernel_rfl
theorem swalk_ok : ∀ (d : Nat) (s : Shape), size s ≤ d → ∀ {w0 w : World} {b : Nat} {T : TypeId} {c lv : Nat} {k : Int} {o n : ByteArray} {ns ps : Sl}, ShV w0 k o n ns ps s → Fr noB w0 w → w0.heap.size ≤ b → Blk w b T [.int .i64 (c : Int)] → c ≤ 400 → lv ≤ c + 1 →
    Calls Tryz.prog 88 #[shArg k o n ns ps, .int .i64 (lv : Int), .func (.func 89) #[] #[.pointer (some ⟨b, 0, none⟩)]] w (MetP b T c (size s) (.int .i64 ((lv + deep s - 1 : Nat) : Int)) w)
  | 0, s, h, _, _, _, _, _, _, _, _, _, _, _, _, _, _, _, _, _ => by have := size_pos s; omega
  | d + 1, .mk k' o' n' names parts, hd, w0, w, b, T, c, lv, k, o, n, ns, ps, hv, F0, hb, B, hc, hlv => by
    rw [size_mk] at hd
    obtain ⟨_, _, _, ⟨_, _, hpn, hpl, _⟩, hps⟩ := hv.parts
    change ps.n = parts.length at hpn
    change parts.length < _ at hpl
    change ShL w0 ps.a 0 parts at hps
    have hbl := B.lt
    apply c88
    unfold t88
    refine new_ok fun w1 m7 hm7 hs1 C1 F1 => ?_
    change Blk w1 m7 _ (shCells k o n ns ps) at C1
    have B1 := B.fr F1 (fun h => h)
    refine ⟨_, #[], _, rfl, resMeet, ?_⟩
    refine (smeet_ok B1 hc).mono ?_
    rintro e w2 ⟨F2, ⟨hle, rfl, B2⟩ | ⟨hgt, rfl, x, B2⟩⟩
    rotate_left
    · exact .inr ⟨_, rfl, st_fr F1.ob F2, .inr ⟨by rw [size_mk]; omega, rfl, x, B2⟩⟩
    refine .inl ⟨(), rfl, ?_⟩
    have G2 := st_fr F1.ob F2
    refine (C1.fr F2 (show ¬ m7 = b by omega)).ldS (o := 4) rfl ?_
    refine join1_ok (c := .int .i64) (fun (y : Int) w' => y = ((lv + deeps parts : Nat) : Int) ∧ c + 1 + sizes parts ≤ 400 ∧ Fr (oneB b) w w' ∧ Blk w' b T [.int .i64 ((c + 1 + sizes parts : Nat) : Int)]) (fun kend hkend => ?_) ?_
    rotate_left
    · rintro y w' ⟨rfl, hle', G, B'⟩
      refine ⟨G, .inl ⟨by rw [size_mk]; omega, ?_, ?_⟩⟩
      · rw [deep_mk]
        congr 3
        omega
      · rw [size_mk, show c + (1 + sizes parts) = c + 1 + sizes parts by omega]
        exact B'
    refine loop_ok (vs := [.one (.int .i64), .one (.int .i64)]) (fun xs w' => ∃ i : Nat, i ≤ parts.length ∧ (show Int from xs.2.1.1) = (i : Int) ∧ (show Int from xs.1.1) = ((lv + deeps (parts.take i) : Nat) : Int) ∧ c + 1 + sizes (parts.take i) ≤ 400 ∧ Fr (oneB b) w w' ∧ Blk w' b T [.int .i64 ((c + 1 + sizes (parts.take i) : Nat) : Int)])
      (fun xs => parts.length - (show Int from xs.2.1.1).toNat) ?_ (xs := (((lv : Int), ()), (((0 : Int), ()), ()))) ⟨0, Nat.zero_le _, rfl, by rw [List.take_zero, deeps]; rfl, by rw [List.take_zero, sizes]; omega, G2, by rw [List.take_zero, sizes]; exact B2⟩
    rintro rec ⟨⟨y, ⟨⟩⟩, ⟨⟨z, ⟨⟩⟩, ⟨⟩⟩⟩ w3 ⟨i, hi, hz, hy, hle3, G3, B3⟩ hrec
    change z = (i : Int) at hz
    change y = _ at hy
    subst hz hy
    refine ite_ok (fun hlt => ?_) fun hge => ?_
    · have hlt : (i : Int) < (ps.n : Int) := of_decide_eq_true hlt
      obtain ⟨s, hs⟩ : ∃ s, parts[i]? = some s := ⟨_, List.getElem?_eq_getElem (by omega)⟩
      have hsz := size_mem (List.mem_of_getElem? hs)
      have K3 : Fr noB w0 w3 := F0.then G3 (fun x hx hxb => by unfold oneB at hxb; omega)
      have hds := deep_pos s
      have hdz := deep_size s
      have hdt := deeps_sizes (parts.take i)
      have e1 := sizes_take hs
      have e2 := deeps_take hs
      have hle4 := sizes_take_le parts (i + 1)
      refine join_in (vs := [.one (.int .i64)]) (part_ld0 hps K3 hs hpn fun k1 o1 n1 ns1 ps1 hv1 => new_ok fun w4 m24 hm24 hs4 B4 F4 => fill_ok B4 rfl rfl rfl rfl rfl rfl fun w5 B5 F5 => ?_)
      change Blk w5 m24 _ (shCells k1 o1 n1 ns1 ps1) at B5
      have hsz3 := G3.size
      have F35 : Fr noB w3 w5 := F4.fill (by omega) F5
      have ew : IntKind.wrap .i64 ((lv : Int) + 1) = ((lv + 1 : Nat) : Int) := by rw [wrap_ok (by omega) (by omega)]; omega
      rw [ew]
      refine B5.ldV (callPan_ok (swalk_ok d s (by omega) hv1 (K3.tr F35) hb (B3.fr F35 fun h => h) hle3 (by omega)) ?_)
      rintro e w6 ⟨F6, ⟨hle6, rfl, B6⟩ | ⟨hgt, rfl, x, B6⟩⟩
      · refine .inl ⟨((_, ()), ()), rfl, ?_⟩
        have G6 := st_fr (st_fr G3 F35.ob) F6
        have ew2 : IntKind.wrap .i64 ((i : Int) + 1) = ((i + 1 : Nat) : Int) := by rw [wrap_ok (by omega) (by omega)]; omega
        refine hrec ((_, ()), ((_, ()), ())) _ ⟨i + 1, by omega, ew2, ?_, by omega, G6, ?_⟩ ?_
        · rw [e2]
          show (if ((lv + 1 + deep s - 1 : Nat) : Int) > ((lv + deeps (parts.take i) : Nat) : Int) then ((lv + 1 + deep s - 1 : Nat) : Int) else ((lv + deeps (parts.take i) : Nat) : Int)) = _
          split <;> omega
        · rw [e1, show c + 1 + (sizes (parts.take i) + size s) = c + 1 + sizes (parts.take i) + size s by omega]
          exact B6
        · show parts.length - (IntKind.wrap .i64 ((i : Int) + 1)).toNat < parts.length - (i : Int).toNat
          rw [ew2]
          simp only [Int.toNat_natCast]
          omega
      · exact .inr ⟨_, rfl, st_fr (st_fr G3 F35.ob) F6, .inr ⟨by rw [size_mk]; omega, rfl, x, B6⟩⟩
    · have hge : ¬ (i : Int) < (ps.n : Int) := of_decide_eq_false hge
      have : i = parts.length := by omega
      subst this
      rw [List.take_length] at hle3 B3 ⊢
      exact hkend _ _ ⟨rfl, hle3, G3, B3⟩
end Go.Proofs.YticokfpaoiekgaaGreatDoor
end
