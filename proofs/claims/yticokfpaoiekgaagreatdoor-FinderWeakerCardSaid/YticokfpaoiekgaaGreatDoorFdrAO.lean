/- The law behind: one part of its proof (joined by program out of my own texts). No condition. -/
import Derived.Test.YticokfpaoiekgaaGreatDoorFdrAN
section
namespace Go.Shp
theorem refSizes_stop {m : Nat} : ∀ {l : List Shape} {n : Nat}, m < n → refSizes l m n = n
 | [], n, _ => by rw [refSizes]
 | s :: r, n, h => by rw [refSizes, if_neg (by omega)]
theorem refSizes_drop {l : List Shape} {i m n : Nat} {s : Shape} (h : l[i]? = some s) (hn : n ≤ m) : refSizes (l.drop i) m n = refSizes (l.drop (i + 1)) m (n + refSize s (m - n)) := by
 obtain ⟨hi, e⟩ := List.getElem?_eq_some_iff.1 h
 rw [List.drop_eq_getElem_cons hi, e]
 conv => lhs; unfold refSizes
 rw [if_pos hn]
theorem deeps_le_sizes (l : List Shape) : deeps l ≤ sizes l := deeps_sizes l
theorem deeps_take {l : List Shape} {i : Nat} {s : Shape} (h : l[i]? = some s) : deeps (l.take (i + 1)) = max (deeps (l.take i)) (deep s) := by
 induction l generalizing i with
 | nil => simp at h
 | cons x r ih =>
  cases i with
  | zero =>
   simp only [List.getElem?_cons_zero, Option.some.injEq] at h
   subst h
   simp [deeps]
  | succ i =>
   have := ih (i := i) (by simpa using h)
   rw [List.take_succ_cons, List.take_succ_cons, deeps, deeps, this]
   omega
end Go.Shp
namespace Go.Proofs.YticokfpaoiekgaaGreatDoor
open Go.Lift Go.Lex Go.Shp
theorem rSize_ok : ∀ (d : Nat) (s : Shape), size s ≤ d → ∀ {w : World} {k : Int} {o n : ByteArray} {ns ps : Sl} (m : Nat), m ≤ 1000000 → ShV w k o n ns ps s →
  Calls Tryz.prog 50 #[shArg k o n ns ps, .int .i64 (m : Int)] w fun e w' => e = .returned (.int .i64 ((refSize s m : Nat) : Int)) ∧ Fr noB w w'
 | 0, s, h, _, _, _, _, _, _, _, _, _ => by have := size_pos s; omega
 | d + 1, .mk k' o' n' names parts, hd, w, k, o, n, ns, ps, m, hm, hv => by
  rw [size_mk] at hd
  obtain ⟨_, _, _, ⟨_, _, hpn, hpl, _⟩, hps⟩ := hv.parts
  change ps.n = parts.length at hpn
  change parts.length < 4611686018427387904 at hpl
  change ShL w ps.a 0 parts at hps
  have hle := (refSize_le (.mk k' o' n' names parts) m).1
  apply c50
  unfold t50 wrZ ivZ shZ ldLZ ld5xZ nw5Z caIZ jnBZ jnIZ lpIIZ ixZ
  refine new_ok fun w1 m6 hm6 hs1 B1 F1 => ?_
  change Blk w1 m6 _ (shCells k o n ns ps) at B1
  refine join1_ok (c := .int .i64) (fun (x : Int) w' => x = ((refSize (.mk k' o' n' names parts) m : Nat) : Int) ∧ Fr noB w w') (fun k7 hk7 => ?_) (fun x w' ⟨h1, F⟩ => ⟨by rw [h1], F⟩)
  refine loop_ok (vs := [.one (.int .i64), .one (.int .i64)]) (fun xs w' => ∃ i c : Nat, (show Int from xs.1.1) = (c : Int) ∧ (show Int from xs.2.1.1) = (i : Int) ∧ i ≤ parts.length ∧ c ≤ m + 1 ∧ 1 ≤ c ∧ refSizes (parts.drop i) m c = refSize (.mk k' o' n' names parts) m ∧ Fr noB w1 w')
   (fun xs => parts.length - (show Int from xs.2.1.1).toNat) ?_ (xs := (((1 : Int), ()), (((0 : Int), ()), ()))) ⟨0, 1, rfl, rfl, Nat.zero_le _, by omega, Nat.le_refl _, by rw [List.drop_zero, refSize], Fr.refl _ _⟩
  rintro rec ⟨⟨c', ⟨⟩⟩, ⟨⟨i', ⟨⟩⟩, ⟨⟩⟩⟩ w2 ⟨i, c, hc, hi, hil, hcm, hc1, hq, F2⟩ hrec
  change Int at c'
  change Int at i'
  change c' = _ at hc
  change i' = _ at hi
  subst hc hi
  have B2 := B1.fr F2 (fun h => h)
  refine join1_ok (c := .bool) (fun (b : Bool) w' => b = (decide (i < parts.length) && decide (c ≤ m)) ∧ w' = w2) (fun kj hkj => B2.ldS (o := 4) rfl (ite_ok (fun h => hkj _ _ ⟨?_, rfl⟩) fun h => hkj _ _ ⟨?_, rfl⟩)) ?_
  ·have h : (i : Int) < (ps.n : Int) := of_decide_eq_true h
   rw [decide_eq_true (by omega : i < parts.length), Bool.true_and]
   exact decide_eq_decide.2 (by omega)
  ·have h : ¬ (i : Int) < (ps.n : Int) := of_decide_eq_false h
   rw [decide_eq_false (by omega : ¬ i < parts.length), Bool.false_and]
  rintro b w3 ⟨rfl, hw⟩
  replace hw := hw.symm
  subst hw
  by_cases hgo : i < parts.length ∧ c ≤ m
  ·obtain ⟨s, hs⟩ : ∃ s, parts[i]? = some s := ⟨_, List.getElem?_eq_getElem hgo.1⟩
   have hsz := size_mem (List.mem_of_getElem? hs)
   have hrs := refSize_le s (m - c)
   refine ite_yes (by rw [decide_eq_true hgo.1, decide_eq_true hgo.2]; rfl) (join_in (vs := [.one (.int .i64)]) (B2.ldS (o := 4) rfl ?_))
   refine part_ld (hps.fr (F1.tr F2)) hs hpn fun k1 o1 n1 ns1 ps1 hv1 => ?_
   have ewm : IntKind.wrap .i64 ((m : Int) - (c : Int)) = ((m - c : Nat) : Int) := by rw [wrap_ok (by omega) (by omega)]; omega
   rw [ewm]
   refine callI_ok (rSize_ok d s (by omega) (m - c) (by omega) hv1) fun w4 F4 => ?_
   have ewc : IntKind.wrap .i64 ((c : Int) + ((refSize s (m - c) : Nat) : Int)) = ((c + refSize s (m - c) : Nat) : Int) := by rw [wrap_ok (by omega) (by omega)]; omega
   have ewi : IntKind.wrap .i64 ((i : Int) + 1) = ((i + 1 : Nat) : Int) := by rw [wrap_ok (by omega) (by omega)]; omega
   show uncV rec ((IntKind.wrap .i64 ((c : Int) + ((refSize s (m - c) : Nat) : Int)), ()), ((IntKind.wrap .i64 ((i : Int) + 1), ()), ())) _ w4
   rw [ewc, ewi]
   exact hrec _ _ ⟨i + 1, c + refSize s (m - c), rfl, rfl, by omega, by omega, by omega, by rw [← hq, refSizes_drop hs hgo.2], F2.tr F4⟩ (by show parts.length - ((i + 1 : Nat) : Int).toNat < parts.length - ((i : Nat) : Int).toNat; simp only [Int.toNat_natCast]; omega)
  ·refine ite_no ?_ (hk7 _ _ ⟨?_, F1.tr F2⟩)
   ·rw [Bool.eq_false_iff]
    intro h
    rw [Bool.and_eq_true] at h
    exact hgo ⟨of_decide_eq_true h.1, of_decide_eq_true h.2⟩
   ·rw [← hq]
    by_cases hcm' : c ≤ m
    ·have : parts.length ≤ i := by
      rcases Nat.lt_or_ge i parts.length with h | h
      ·exact absurd ⟨h, hcm'⟩ hgo
      ·exact h
     rw [List.drop_of_length_le this, refSizes]
    ·rw [refSizes_stop (by omega)]
theorem rDeep_ok : ∀ (d : Nat) (s : Shape), size s ≤ d → size s ≤ 100000 → ∀ {w : World} {k : Int} {o n : ByteArray} {ns ps : Sl}, ShV w k o n ns ps s →
  Calls Tryz.prog 76 #[shArg k o n ns ps] w fun e w' => e = .returned (.int .i64 ((deep s : Nat) : Int)) ∧ Fr noB w w'
 | 0, s, h, _, _, _, _, _, _, _, _ => by have := size_pos s; omega
 | d + 1, .mk k' o' n' names parts, hd, hbig, w, k, o, n, ns, ps, hv => by
  rw [size_mk] at hd hbig
  obtain ⟨_, _, _, ⟨_, _, hpn, hpl, _⟩, hps⟩ := hv.parts
  change ps.n = parts.length at hpn
  change parts.length < 4611686018427387904 at hpl
  change ShL w ps.a 0 parts at hps
  have hdl := deeps_le_sizes parts
  apply c76
  unfold t76 wrZ ivZ shZ ldLZ ld5xZ nw5Z caIZ jnIZ lpIIZ ixZ
  refine new_ok fun w1 m5 hm5 hs1 B1 F1 => ?_
  change Blk w1 m5 _ (shCells k o n ns ps) at B1
  refine join1_ok (c := .int .i64) (fun (x : Int) w' => x = ((deeps parts : Nat) : Int) ∧ Fr noB w w') (fun k7 hk7 => ?_) (fun x w' ⟨h1, F⟩ => ⟨?_, F⟩)
  rotate_left
  ·rw [h1, wrap_ok (by omega) (by omega), deep_mk]
   congr 3
   omega
  refine loop_ok (vs := [.one (.int .i64), .one (.int .i64)]) (fun xs w' => ∃ i : Nat, (show Int from xs.1.1) = ((deeps (parts.take i) : Nat) : Int) ∧ (show Int from xs.2.1.1) = (i : Int) ∧ i ≤ parts.length ∧ Fr noB w1 w')
   (fun xs => parts.length - (show Int from xs.2.1.1).toNat) ?_ (xs := (((0 : Int), ()), (((0 : Int), ()), ()))) ⟨0, rfl, rfl, Nat.zero_le _, Fr.refl _ _⟩
  rintro rec ⟨⟨c', ⟨⟩⟩, ⟨⟨i', ⟨⟩⟩, ⟨⟩⟩⟩ w2 ⟨i, hc, hi, hil, F2⟩ hrec
  change Int at c'
  change Int at i'
  change c' = _ at hc
  change i' = _ at hi
  subst hc hi
  have B2 := B1.fr F2 (fun h => h)
  refine B2.ldS (o := 4) rfl (ite_ok (fun h => ?_) fun h => hk7 _ _ ⟨?_, F1.tr F2⟩)
  rotate_left
  ·have h : ¬ (i : Int) < (ps.n : Int) := of_decide_eq_false h
   rw [List.take_of_length_le (by omega)]
  have h : (i : Int) < (ps.n : Int) := of_decide_eq_true h
  obtain ⟨s, hs⟩ : ∃ s, parts[i]? = some s := ⟨_, List.getElem?_eq_getElem (by omega)⟩
  have hsz := size_mem (List.mem_of_getElem? hs)
  refine join_in (vs := [.one (.int .i64)]) (B2.ldS (o := 4) rfl ?_)
  refine part_ld (hps.fr (F1.tr F2)) hs hpn fun k1 o1 n1 ns1 ps1 hv1 => ?_
  refine callI_ok (rDeep_ok d s (by omega) (by omega) hv1) fun w3 F3 => ?_
  have ewi : IntKind.wrap .i64 ((i : Int) + 1) = ((i + 1 : Nat) : Int) := by rw [wrap_ok (by omega) (by omega)]; omega
  have next : ∀ {x : Int}, x = ((deeps (parts.take (i + 1)) : Nat) : Int) → uncV rec ((x, ()), ((IntKind.wrap .i64 ((i : Int) + 1), ()), ())) _ w3 := fun {x} hx => by
   rw [ewi]
   exact hrec _ _ ⟨i + 1, hx, rfl, by omega, F2.tr F3⟩ (by show parts.length - ((i + 1 : Nat) : Int).toNat < parts.length - ((i : Nat) : Int).toNat; simp only [Int.toNat_natCast]; omega)
  have e := deeps_take hs
  refine join_in (vs := [.one (.int .i64)]) (ite_ok (fun h => next ?_) fun h => next ?_)
  ·have h : ((deep s : Nat) : Int) > ((deeps (parts.take i) : Nat) : Int) := of_decide_eq_true h
   rw [e]
   omega
  ·have h : ¬ ((deep s : Nat) : Int) > ((deeps (parts.take i) : Nat) : Int) := of_decide_eq_false h
   rw [e]
   omega
end Go.Proofs.YticokfpaoiekgaaGreatDoor
end
section
namespace Go.Lift
theorem str_ld {R : Ending → World → Prop} {w : World} {s : Sl} {l : List (List UInt8)} {i : Nat} {x : List UInt8} {K : ByteArray → G} (h : RdS w s (l.map bs)) (hx : l[i]? = some x) (hk : K (bs x) R w) : idxG s.a s.n (i : Int) 1 (fun (a : Addr) => ldG .str a K) R w := by
 have hi := (List.getElem?_eq_some_iff.1 hx).1
 obtain ⟨y, a, hy, ha, rd, hix⟩ := h.at (k := i) (by simpa using hi)
 rw [List.getElem?_map, hx] at hy
 cases hy
 rw [ha]
 exact hix (ld_ok (c := .str) (rd _ (Fr.refl _ _)) hk)
theorem countL_ok {body : (Int → G) → Int → G} {R : Ending → World → Prop} {w : World} (n : Nat) (hn : n ≤ 9223372036854775807) (I : Nat → World → Prop)
  (hbody : ∀ (rec : Int → G) (k : Nat) (w : World), k ≤ n → I k w → (k < n → ∀ w', I (k + 1) w' → rec (IntKind.wrap .i64 ((k : Int) + 1)) R w') → body rec (k : Int) R w)
  (h : I 0 w) : loopG [.one (.int .i64)] body (0 : Int) R w := by
 refine loop1_ok (c := .int .i64) (fun (i : Int) w' => ∃ k : Nat, i = (k : Int) ∧ k ≤ n ∧ I k w') (fun (i : Int) => n - i.toNat) ?_ ⟨0, rfl, Nat.zero_le _, h⟩
 rintro rec i w1 ⟨k, rfl, hk, hI⟩ hrec
 refine hbody rec k w1 hk hI fun hlt w' hI' => ?_
 have e : IntKind.wrap .i64 ((k : Int) + 1) = ((k + 1 : Nat) : Int) := by rw [wrap_ok (by omega) (by omega)]; omega
 rw [e]
 exact hrec _ _ ⟨k + 1, rfl, hlt, hI'⟩ (by simp only [Int.toNat_natCast]; omega)
end Go.Lift
namespace Go.Proofs.YticokfpaoiekgaaGreatDoor
open Go.Lift Go.Lex Go.Shp
section
variable {w : World}
theorem nodup_of {l : List B} (h : ∀ (i j : Nat) (x : B), i < j → l[i]? = some x → l[j]? ≠ some x) : l.Nodup := by
 rw [List.nodup_iff_pairwise_ne, List.pairwise_iff_getElem]
 intro i j hi hj hij e
 exact h i j _ hij (List.getElem?_eq_getElem hi) (by rw [e]; exact List.getElem?_eq_getElem hj)
theorem rnames_ok {l0 : Sl} {names : List B} (hR : RdS w l0 (names.map bs)) (hn : names.length < 4611686018427387904) (hs : ∀ x ∈ names, x.length < 4611686018427387904) (n : Nat) : AnsB 136 #[.slice l0.a l0.n l0.c, .int .i64 (n : Int)] w (namedOk names n) := by
 have hl0 := hR.1
 rw [List.length_map] at hl0
 apply c136
 unfold t136 wrZ tvZ ldSZ caBZ jn0Z lpIZ ixZ
 refine join0_ok (fun w' => names.all isName = true ∧ names.Nodup ∧ Fr noB w w') (fun kend hkend => ?_) ?_
 ·refine countL_ok names.length (by omega) (fun k w' => (∀ i x, i < k → names[i]? = some x → isName x = true) ∧ (∀ i j x, i < j → j < k → names[i]? = some x → names[j]? ≠ some x) ∧ Fr noB w w') (fun rec k w1 hk hI hrec => ?_) ⟨fun i x h => by omega, fun i j x _ h => by omega, Fr.refl _ _⟩
  obtain ⟨hall, hnd, F1⟩ := hI
  refine ite_ok (fun hlt => ?_) fun hge => hkend _ ⟨?_, ?_, F1⟩
  ·have hlt : (k : Int) < (l0.n : Int) := of_decide_eq_true hlt
   obtain ⟨x, hx⟩ : ∃ x, names[k]? = some x := ⟨_, List.getElem?_eq_getElem (by omega)⟩
   have hxl := hs x (List.mem_of_getElem? hx)
   refine join_in (vs := []) (str_ld (hR.fr F1) hx (callB_ok (rName_ok (bs x) (by rw [bs_size]; exact hxl)) fun w2 F2 => ?_))
   rw [bl_bs]
   by_cases hok : isName x = true
   ·refine ite_no (by rw [hok]; rfl) ?_
    refine join0_ok (fun w' => (∀ i, i < k → names[i]? ≠ some x) ∧ Fr noB w w') (fun kj hkj => ?_) fun w3 ⟨hno, F3⟩ => hrec (by omega) _ ⟨fun i y hi hy => ?_, fun i j y hij hj hy => ?_, F3⟩
    ·refine countL_ok k (by omega) (fun j w' => (∀ i, i < j → names[i]? ≠ some x) ∧ Fr noB w w') (fun rec2 j w3 hj hI hrec2 => ?_) ⟨fun i h => by omega, F1.tr F2⟩
     obtain ⟨hno, F3⟩ := hI
     refine ite_ok (fun hjk => ?_) fun hjk => hkj _ ⟨fun i hi => hno i ?_, F3⟩
     ·have hjk : (j : Int) < (k : Int) := of_decide_eq_true hjk
      obtain ⟨y, hy⟩ : ∃ y, names[j]? = some y := ⟨_, List.getElem?_eq_getElem (by omega)⟩
      refine join_in (vs := []) (drew_ok fun w4 F4 z4 => str_ld (hR.fr (F3.tr F4)) hy (str_ld (hR.fr (F3.tr F4)) hx ?_))
      rw [eq_bl, bl_bs, bl_bs]
      by_cases hxy : y = x
      ·refine ite_yes (by rw [hxy]; exact beq_self_eq_true _) ⟨?_, F3.tr F4⟩
       unfold namedOk
       have : ¬ names.Nodup := fun hh => by
        have h1 := (List.nodup_iff_pairwise_ne.1 hh)
        rw [List.pairwise_iff_getElem] at h1
        obtain ⟨q1, q2⟩ := List.getElem?_eq_some_iff.1 hy
        obtain ⟨q3, q4⟩ := List.getElem?_eq_some_iff.1 hx
        exact h1 j k q1 q3 (by omega) (by rw [q2, q4, hxy])
       rw [decide_eq_false this, Bool.and_false]
      ·refine ite_no (by simpa using hxy) (hrec2 (by omega) _ ⟨fun i hi => ?_, F3.tr F4⟩)
       rcases Nat.lt_succ_iff_lt_or_eq.1 hi with hi | rfl
       ·exact hno i hi
       ·rw [hy]
        intro e
        exact hxy (Option.some.inj e)
     ·have hjk : ¬ (j : Int) < (k : Int) := of_decide_eq_false hjk
      omega
    ·rcases Nat.lt_succ_iff_lt_or_eq.1 hi with hi | rfl
     ·exact hall i y hi hy
     ·rw [hx] at hy
      cases hy
      exact hok
    ·rcases Nat.lt_succ_iff_lt_or_eq.1 hj with hj | rfl
     ·exact hnd i j y hij hj hy
     ·intro e
      rw [hx] at e
      cases e
      exact hno i hij hy
   ·refine ite_yes (by simpa using hok) ⟨?_, F1.tr F2⟩
    unfold namedOk
    have : names.all isName = false := by
     rw [List.all_eq_false]
     exact ⟨x, List.mem_of_getElem? hx, hok⟩
    rw [this, Bool.and_false, Bool.false_and]
  ·have hge : ¬ (k : Int) < (l0.n : Int) := of_decide_eq_false hge
   rw [List.all_eq_true]
   intro x hx
   obtain ⟨i, hi⟩ := List.mem_iff_getElem?.1 hx
   have := (List.getElem?_eq_some_iff.1 hi).1
   exact hall i x (by omega) hi
  ·have hge : ¬ (k : Int) < (l0.n : Int) := of_decide_eq_false hge
   exact nodup_of fun i j x hij hx hj => by
    have := (List.getElem?_eq_some_iff.1 hj).1
    exact hnd i j x hij (by omega) hx hj
 rintro w1 ⟨h1, h2, F1⟩
 refine ⟨?_, F1⟩
 unfold namedOk
 rw [h1, decide_eq_true h2, Bool.and_true, Bool.and_true]
 congr 2
 rw [Bool.eq_iff_iff, beq_iff_eq, decide_eq_true_eq]
 omega
theorem len0 {α : Type} (l : List α) : (((l.length : Nat) : Int) == 0) = l.isEmpty := by cases l <;> simp <;> omega
theorem emp_bl (s : ByteArray) : (ByteArray.toList s == ByteArray.toList (ByteArray.mk #[])) = (bl s).isEmpty := by
 rw [eq_bl, bl_empty]
 cases bl s <;> rfl
set_option maxHeartbeats 2000000 in
theorem rfits_ok {s : Shape} {k : Int} {o n : ByteArray} {ns ps : Sl} (hv : ShV w k o n ns ps s) : AnsB 101 #[shArg k o n ns ps] w (fits s) := by
 obtain ⟨k', o', n', names, parts⟩ := s
 obtain ⟨rfl, rfl, rfl, ⟨hns, hnl, hpn, hpl, hos, hnz, hxl⟩, hps⟩ := hv.parts
 change RdS w ns (names.map bs) at hns
 change names.length < 4611686018427387904 at hnl
 change ps.n = parts.length at hpn
 change ∀ x ∈ names, x.length < 4611686018427387904 at hxl
 have hnn := hns.1
 rw [List.length_map] at hnn
 apply c101
 unfold t101 ivZ tvZ svZ ldIZ ldSZ ldLZ nw5Z caBZ jnBZ
 refine new_ok fun w1 m5 hm5 hs1 B1 F1 => ?_
 change Blk w1 m5 _ (shCells k o n ns ps) at B1
 have d0 : ∀ {K : Int → G} {R : Ending → World → Prop} {w' : World}, Fr noB w1 w' → K k R w' → ldG (.int .i64) ⟨m5, 0, none⟩ K R w' := fun F h => (B1.fr F (fun h => h)).ld (c := .int .i64) (o := 0) rfl h
 have d1 : ∀ {K : ByteArray → G} {R : Ending → World → Prop} {w' : World}, Fr noB w1 w' → K o R w' → ldG .str ⟨m5, 1, none⟩ K R w' := fun F h => (B1.fr F (fun h => h)).ld (c := .str) (o := 1) rfl h
 have d2 : ∀ {K : ByteArray → G} {R : Ending → World → Prop} {w' : World}, Fr noB w1 w' → K n R w' → ldG .str ⟨m5, 2, none⟩ K R w' := fun F h => (B1.fr F (fun h => h)).ld (c := .str) (o := 2) rfl h
 have d3 : ∀ {K : Sl → G} {R : Ending → World → Prop} {w' : World}, Fr noB w1 w' → K ns R w' → ldG .slice ⟨m5, 3, none⟩ K R w' := fun F h => (B1.fr F (fun h => h)).ldS (o := 3) rfl h
 have d4 : ∀ {K : Sl → G} {R : Ending → World → Prop} {w' : World}, Fr noB w1 w' → K ps R w' → ldG .slice ⟨m5, 4, none⟩ K R w' := fun F h => (B1.fr F (fun h => h)).ldS (o := 4) rfl h
 have e3 : (((ns.n : Nat) : Int) == 0) = names.isEmpty := by rw [hnn]; exact len0 names
 have e4 : (((ps.n : Nat) : Int) == 0) = parts.isEmpty := by rw [hpn]; exact len0 parts
 have R0 := Fr.refl noB w1
 generalize hT : fits (.mk k (bl o) (bl n) names parts) = T
 have hfit : T = (if k = 1 ∨ k = 2 ∨ k = 3 ∨ k = 4 then (bl o).isEmpty && (bl n).isEmpty && names.isEmpty && parts.isEmpty
  else if k = 5 then (bl o).isEmpty && (bl n).isEmpty && names.isEmpty && decide (parts.length = 1)
  else if k = 6 ∨ k = 7 then (bl o).isEmpty && (bl n).isEmpty && namedOk names parts.length
  else if k = 8 then (bl o).isEmpty && (bl n).isEmpty && names.isEmpty && decide (0 < parts.length)
  else if k = 9 then isUpper (bl n) && (((bl o).isEmpty && !plainT (bl n)) || isName (bl o)) && names.isEmpty && parts.isEmpty
  else if k = 10 then isUpper (bl n) && isName (bl o) && names.isEmpty && parts.isEmpty
  else false) := by rw [← hT]; rfl
 refine join1_ok (c := .bool) (fun (b : Bool) w' => b = decide (k = 9 ∨ k = 10) ∧ w' = w1) (fun kj hkj => d0 R0 (ite_ok (fun h => hkj _ _ ⟨?_, rfl⟩) fun h => d0 R0 (hkj _ _ ⟨?_, rfl⟩))) ?_
 ·have h : k = 9 := by simpa using h
  exact (decide_eq_true (.inl h)).symm
 ·have h : ¬ k = 9 := by simpa using h
  rw [Bool.eq_iff_iff, beq_iff_eq, decide_eq_true_eq]
  omega
 rintro b w2 ⟨rfl, hw⟩
 replace hw := hw.symm
 subst hw
 by_cases h9 : k = 9 ∨ k = 10
 ·rw [if_neg (by omega), if_neg (by omega), if_neg (by omega), if_neg (by omega)] at hfit
  refine ite_yes (decide_eq_true h9) ?_
  refine join1_ok (c := .bool) (fun (b : Bool) w' => b = plainT (bl n) ∧ w' = w1) (fun kj hkj => ?_) ?_
  ·have hp : plainT (bl n) = ((bl n) == [73, 110, 116] || (bl n) == [66, 111, 111, 108] || (bl n) == [84, 101, 120, 116] || (bl n) == [65, 110, 121]) := rfl
   refine d2 R0 ?_
   rw [eq_bl, show bl (ByteArray.mk #[(73 : UInt8), (110 : UInt8), (116 : UInt8)]) = [73, 110, 116] from rfl]
   refine ite_ok (fun h => hkj _ _ ⟨by rw [hp, h]; rfl, rfl⟩) fun h1 => d2 R0 ?_
   rw [eq_bl, show bl (ByteArray.mk #[(66 : UInt8), (111 : UInt8), (111 : UInt8), (108 : UInt8)]) = [66, 111, 111, 108] from rfl]
   refine ite_ok (fun h => hkj _ _ ⟨by rw [hp, h1, h]; rfl, rfl⟩) fun h2 => d2 R0 ?_
   rw [eq_bl, show bl (ByteArray.mk #[(84 : UInt8), (101 : UInt8), (120 : UInt8), (116 : UInt8)]) = [84, 101, 120, 116] from rfl]
   refine ite_ok (fun h => hkj _ _ ⟨by rw [hp, h1, h2, h]; rfl, rfl⟩) fun h3 => d2 R0 (hkj _ _ ⟨?_, rfl⟩)
   rw [eq_bl, show bl (ByteArray.mk #[(65 : UInt8), (110 : UInt8), (121 : UInt8)]) = [65, 110, 121] from rfl, hp, h1, h2, h3]
   rfl
  rintro b w2 ⟨rfl, hw⟩
  replace hw := hw.symm
  subst hw
  refine join1_ok (c := .bool) (fun (b : Bool) w' => b = (isName (bl o) || ((bl o).isEmpty && (k == 9 && !plainT (bl n)))) ∧ Fr noB w1 w') (fun kj hkj => d1 R0 (callB_ok (rName_ok o hos) fun w3 F3 => ite_ok (fun h => hkj _ _ ⟨by rw [h]; rfl, F3⟩) fun h => d1 F3 ?_)) ?_
  ·rw [emp_bl]
   refine ite_ok (fun h1 => d0 F3 (ite_ok (fun h2 => hkj _ _ ⟨by rw [h, h1, h2]; simp, F3⟩) fun h2 => hkj _ _ ⟨by rw [h, h1, h2]; rfl, F3⟩)) fun h1 => hkj _ _ ⟨by rw [h, h1]; rfl, F3⟩
  rintro b w3 ⟨rfl, F3⟩
  refine join1_ok (c := .bool) (fun (b : Bool) w' => b = T ∧ Fr noB w w') (fun kj hkj => ?_) (fun b w' h => done_b h)
  have hT2 : T = (isUpper (bl n) && ((isName (bl o) || ((bl o).isEmpty && (k == 9 && !plainT (bl n)))) && (names.isEmpty && parts.isEmpty))) := by
   rw [hfit]
   rcases h9 with rfl | rfl
   ·rw [if_pos rfl]
    simp only [beq_self_eq_true, Bool.true_and, Bool.and_assoc, Bool.or_comm]
   ·rw [if_neg (by omega), if_pos rfl]
    simp [Bool.and_assoc]
  refine d2 F3 (callB_ok (rUpper_ok n hnz) fun w4 F4 => ?_)
  have F14 := F1.tr (F3.tr F4)
  refine ite_ok (fun h1 => ite_ok (fun h2 => d3 (F3.tr F4) ?_) fun h2 => hkj _ _ ⟨by rw [hT2, h1, h2]; rfl, F14⟩) fun h1 => hkj _ _ ⟨by rw [hT2, h1]; rfl, F14⟩
  rw [e3]
  refine ite_ok (fun h3 => d4 (F3.tr F4) (hkj _ _ ⟨?_, F14⟩)) fun h3 => hkj _ _ ⟨by rw [hT2, h1, h2, h3]; rfl, F14⟩
  rw [e4, hT2, h1, h2, h3]
  rfl
 rw [if_neg (c := k = 9) (by omega), if_neg (c := k = 10) (by omega)] at hfit
 refine ite_no (decide_eq_false h9) ?_
 refine join1_ok (c := .bool) (fun (b : Bool) w' => b = !((bl o).isEmpty && (bl n).isEmpty) ∧ w' = w1) (fun kj hkj => d1 R0 ?_) ?_
 ·rw [emp_bl]
  refine ite_ok (fun h => hkj _ _ ⟨?_, rfl⟩) fun h => d2 R0 (hkj _ _ ⟨?_, rfl⟩)
  ·have h : (bl o).isEmpty = false := by simpa using h
   rw [h]; rfl
  ·have h : (bl o).isEmpty = true := by simpa using h
   rw [emp_bl, h]; rfl
 rintro b w2 ⟨rfl, hw⟩
 replace hw := hw.symm
 subst hw
 by_cases hbare : ((bl o).isEmpty && (bl n).isEmpty) = true
 rotate_left
 ·have hbare : ((bl o).isEmpty && (bl n).isEmpty) = false := by simpa using hbare
  refine ite_yes (by rw [hbare]; rfl) ⟨?_, F1⟩
  rw [hfit, hbare]
  simp
 refine ite_no (by rw [hbare]; rfl) ?_
 rw [hbare] at hfit
 simp only [Bool.true_and] at hfit
 refine join1_ok (c := .bool) (fun (b : Bool) w' => b = decide (k = 6 ∨ k = 7) ∧ w' = w1) (fun kj hkj => d0 R0 (ite_ok (fun h => hkj _ _ ⟨?_, rfl⟩) fun h => d0 R0 (hkj _ _ ⟨?_, rfl⟩))) ?_
 ·have h : k = 6 := by simpa using h
  exact (decide_eq_true (.inl h)).symm
 ·have h : ¬ k = 6 := by simpa using h
  rw [Bool.eq_iff_iff, beq_iff_eq, decide_eq_true_eq]
  omega
 rintro b w2 ⟨rfl, hw⟩
 replace hw := hw.symm
 subst hw
 by_cases h67 : k = 6 ∨ k = 7
 ·rw [if_neg (by omega), if_neg (by omega), if_pos h67] at hfit
  refine ite_yes (decide_eq_true h67) (d3 R0 (d4 R0 ?_))
  rw [hpn]
  exact callB_ok (rnames_ok (hns.fr F1) hnl hxl parts.length) fun w3 F3 => ⟨by rw [hfit], F1.tr F3⟩
 rw [if_neg (c := k = 6 ∨ k = 7) h67] at hfit
 refine ite_no (decide_eq_false h67) (d3 R0 (ite_ok (fun h => ⟨?_, F1⟩) fun h => ?_))
 ·have h : ((ns.n : Nat) : Int) > 0 := of_decide_eq_true h
  have : names.isEmpty = false := by
   cases names with
   | nil => simp at hnn; omega
   | cons _ _ => rfl
  rw [hfit, this]
  simp
 have h : ¬ ((ns.n : Nat) : Int) > 0 := of_decide_eq_false h
 have hne : names.isEmpty = true := by
  cases names with
  | nil => rfl
  | cons _ _ => simp at hnn; omega
 rw [hne] at hfit
 simp only [Bool.true_and] at hfit
 refine d0 R0 (ite_ok (fun h8 => d4 R0 ⟨?_, F1⟩) fun h8 => d0 R0 (ite_ok (fun h5 => d4 R0 ⟨?_, F1⟩) fun h5 => ?_))
 ·have h8 : k = 8 := by simpa using h8
  rw [hfit, if_neg (by omega), if_neg (by omega), if_pos h8]
  congr 2
  exact decide_eq_decide.2 (by omega)
 ·have h5 : k = 5 := by simpa using h5
  rw [hfit, if_neg (by omega), if_pos h5]
  congr 2
  rw [Bool.eq_iff_iff, beq_iff_eq, decide_eq_true_eq]
  omega
 have h8 : ¬ k = 8 := by simpa using h8
 have h5 : ¬ k = 5 := by simpa using h5
 rw [if_neg (c := k = 5) h5, if_neg (c := k = 8) h8] at hfit
 refine join1_ok (c := .bool) (fun (b : Bool) w' => b = T ∧ Fr noB w w') (fun kj hkj => d0 R0 (ite_ok (fun h1 => d0 R0 (ite_ok (fun h2 => d4 R0 (hkj _ _ ⟨?_, F1⟩)) fun h2 => hkj _ _ ⟨?_, F1⟩)) fun h1 => hkj _ _ ⟨?_, F1⟩)) (fun b w' h => done_b h)
 ·have h1 : k ≥ 1 := of_decide_eq_true h1
  have h2 : k ≤ 4 := of_decide_eq_true h2
  rw [e4, hfit, if_pos (by omega)]
 ·have h1 : k ≥ 1 := of_decide_eq_true h1
  have h2 : ¬ k ≤ 4 := of_decide_eq_false h2
  rw [hfit, if_neg (by omega)]
 ·have h1 : ¬ k ≥ 1 := of_decide_eq_false h1
  rw [hfit, if_neg (by omega)]
theorem rright_ok : ∀ (d : Nat) (s : Shape), size s ≤ d → ∀ {w : World} {k : Int} {o n : ByteArray} {ns ps : Sl}, ShV w k o n ns ps s → AnsB 77 #[shArg k o n ns ps] w (allFit s)
 | 0, s, h, _, _, _, _, _, _, _ => by have := size_pos s; omega
 | d + 1, .mk k' o' n' names parts, hd, w, k, o, n, ns, ps, hv => by
  rw [size_mk] at hd
  obtain ⟨_, _, _, ⟨_, _, hpn, hpl, _⟩, hps⟩ := hv.parts
  change ps.n = parts.length at hpn
  change parts.length < 4611686018427387904 at hpl
  change ShL w ps.a 0 parts at hps
  apply c77
  unfold t77 wrZ shZ ldLZ ld5mZ ld5xZ nw5Z caBZ jn0Z lpIZ ixZ
  refine new_ok fun w1 m5 hm5 hs1 B1 F1 => ?_
  change Blk w1 m5 _ (shCells k o n ns ps) at B1
  refine B1.ld (c := .int .i64) (x := k) (o := 0) rfl (B1.ld (c := .str) (x := o) (o := 1) rfl (B1.ld (c := .str) (x := n) (o := 2) rfl (B1.ldS (o := 3) rfl (B1.ldS (o := 4) rfl ?_))))
  refine callB_ok (rfits_ok (hv.fr F1)) fun w2 F2 => ?_
  have hall : allFit (.mk k' o' n' names parts) = (fits (.mk k' o' n' names parts) && allFits parts) := by rw [allFit]
  rw [hall]
  by_cases hf : fits (.mk k' o' n' names parts) = true
  rotate_left
  ·have hf : fits (.mk k' o' n' names parts) = false := by simpa using hf
   exact ite_yes (by rw [hf]; rfl) ⟨by rw [hf]; rfl, F1.tr F2⟩
  rw [hf, Bool.true_and]
  refine ite_no rfl ?_
  have F12 := F1.tr F2
  refine join0_ok (fun w' => allFits parts = true ∧ Fr noB w w') (fun kend hkend => ?_) (fun w' ⟨h, F⟩ => ⟨by rw [h], F⟩)
  refine count_ok parts.length hpl (fun i w' => (∀ j s, j < i → parts[j]? = some s → allFit s = true) ∧ Fr noB w2 w') (fun rec i w3 hi hI hrec => ?_) ⟨fun j s h => by omega, Fr.refl _ _⟩
  obtain ⟨hdone, F3⟩ := hI
  have B3 := B1.fr (F2.tr F3) (fun h => h)
  refine B3.ldS (o := 4) rfl (ite_ok (fun hlt => ?_) fun hge => hkend _ ⟨allFits_of fun s hs => ?_, F12.tr F3⟩)
  ·have hlt : (i : Int) < (ps.n : Int) := of_decide_eq_true hlt
   obtain ⟨s, hs⟩ : ∃ s, parts[i]? = some s := ⟨_, List.getElem?_eq_getElem (by omega)⟩
   have hsz := size_mem (List.mem_of_getElem? hs)
   refine join_in (vs := []) (B3.ldS (o := 4) rfl ?_)
   refine part_ld (hps.fr (F12.tr F3)) hs hpn fun k1 o1 n1 ns1 ps1 hv1 => ?_
   refine callB_ok (rright_ok d s (by omega) hv1) fun w4 F4 => ?_
   by_cases hok : allFit s = true
   ·refine ite_no (by rw [hok]; rfl) (hrec (by omega) _ ⟨fun j x hj hx => ?_, F3.tr F4⟩)
    rcases Nat.lt_succ_iff_lt_or_eq.1 hj with hj | rfl
    ·exact hdone j x hj hx
    ·rw [hs] at hx
     cases hx
     exact hok
   ·refine ite_yes (by simpa using hok) ⟨?_, (F12.tr F3).tr F4⟩
    have : allFits parts = false := by
     rw [Bool.eq_false_iff]
     intro h
     exact hok (allFits_mem h (List.mem_of_getElem? hs))
    rw [this]
  ·have hge : ¬ (i : Int) < (ps.n : Int) := of_decide_eq_false hge
   obtain ⟨j, hj⟩ := List.mem_iff_getElem?.1 hs
   have := (List.getElem?_eq_some_iff.1 hj).1
   exact hdone j s (by omega) hj
theorem rCheckS_ok {s : Shape} {k : Int} {o n : ByteArray} {ns ps : Sl} (hv : ShV w k o n ns ps s) : Calls Tryz.prog 44 #[shArg k o n ns ps] w fun e w' => e = .returned (.int .i64 ((check s : Nat) : Int)) ∧ Fr noB w w' := by
 apply c44
 unfold t44 ivZ shZ ld5mZ nw5Z caBZ caIZ
 refine new_ok fun w1 m5 hm5 hs1 B1 F1 => ?_
 change Blk w1 m5 _ (shCells k o n ns ps) at B1
 refine B1.ld (c := .int .i64) (x := k) (o := 0) rfl (B1.ld (c := .str) (x := o) (o := 1) rfl (B1.ld (c := .str) (x := n) (o := 2) rfl (B1.ldS (o := 3) rfl (B1.ldS (o := 4) rfl ?_))))
 refine callI_ok (rSize_ok (size s) s (Nat.le_refl _) 400 (by omega) (hv.fr F1)) fun w2 F2 => ?_
 have hsp := refSize_spec s 400
 have F12 := F1.tr F2
 unfold check
 refine ite_ok (fun h => ⟨?_, F12⟩) fun h => ?_
 ·have h : ((refSize s 400 : Nat) : Int) > 400 := of_decide_eq_true h
  rw [if_pos (by rcases Nat.lt_or_ge 400 (size s) with h1 | h1; exact h1; have := hsp.1 h1; omega)]
  rfl
 have h : ¬ ((refSize s 400 : Nat) : Int) > 400 := of_decide_eq_false h
 have hsz : ¬ 400 < size s := fun h1 => by have := hsp.2 h1; omega
 rw [if_neg hsz]
 have B2 := B1.fr F2 (fun h => h)
 refine B2.ld (c := .int .i64) (x := k) (o := 0) rfl (B2.ld (c := .str) (x := o) (o := 1) rfl (B2.ld (c := .str) (x := n) (o := 2) rfl (B2.ldS (o := 3) rfl (B2.ldS (o := 4) rfl ?_))))
 refine callI_ok (rDeep_ok (size s) s (Nat.le_refl _) (by omega) (hv.fr F12)) fun w3 F3 => ?_
 refine ite_ok (fun h => ⟨?_, F12.tr F3⟩) fun h => ?_
 ·have h : ((deep s : Nat) : Int) > 40 := of_decide_eq_true h
  rw [if_pos (by omega)]
  rfl
 have h : ¬ ((deep s : Nat) : Int) > 40 := of_decide_eq_false h
 rw [if_neg (by omega)]
 have B3 := B2.fr F3 (fun h => h)
 refine B3.ld (c := .int .i64) (x := k) (o := 0) rfl (B3.ld (c := .str) (x := o) (o := 1) rfl (B3.ld (c := .str) (x := n) (o := 2) rfl (B3.ldS (o := 3) rfl (B3.ldS (o := 4) rfl ?_))))
 refine callB_ok (rright_ok (size s) s (Nat.le_refl _) (hv.fr (F12.tr F3))) fun w4 F4 => ?_
 cases hf : allFit s with
 | true => exact ite_no rfl ⟨rfl, (F12.tr F3).tr F4⟩
 | false => exact ite_yes rfl ⟨rfl, (F12.tr F3).tr F4⟩
end
end Go.Proofs.YticokfpaoiekgaaGreatDoor
end
section
namespace Go.Shp
theorem eqL_len : ∀ {l r : List Shape}, eqL l r = true → l.length = r.length
 | [], [], _ => rfl
 | [], _ :: _, h => by simp [eqL] at h
 | _ :: _, [], h => by simp [eqL] at h
 | a :: l, b :: r, h => by
  rw [eqL, Bool.and_eq_true] at h
  rw [List.length_cons, List.length_cons, eqL_len h.2]
theorem eqL_at : ∀ {l r : List Shape} {i : Nat} {a b : Shape}, eqL l r = true → l[i]? = some a → r[i]? = some b → eqS a b = true
 | [], _, _, _, _, _, h, _ => by simp at h
 | _ :: _, [], _, _, _, _, _, h => by simp at h
 | x :: l, y :: r, 0, a, b, h, ha, hb => by
  rw [eqL, Bool.and_eq_true] at h
  cases ha
  cases hb
  exact h.1
 | x :: l, y :: r, i + 1, a, b, h, ha, hb => by
  rw [eqL, Bool.and_eq_true] at h
  exact eqL_at (i := i) h.2 (by simpa using ha) (by simpa using hb)
theorem eqL_of : ∀ {l r : List Shape}, l.length = r.length → (∀ (i : Nat) (a b : Shape), l[i]? = some a → r[i]? = some b → eqS a b = true) → eqL l r = true
 | [], [], _, _ => by rw [eqL]
 | [], _ :: _, h, _ => by simp at h
 | _ :: _, [], h, _ => by simp at h
 | x :: l, y :: r, h, k => by
  rw [eqL, k 0 x y rfl rfl, Bool.true_and]
  exact eqL_of (by simpa using h) fun i a b ha hb => k (i + 1) a b (by simpa using ha) (by simpa using hb)
end Go.Shp
namespace Go.Proofs.YticokfpaoiekgaaGreatDoor
open Go.Lift Go.Lex Go.Shp
theorem requal_ok : ∀ (d : Nat) (s s' : Shape), size s ≤ d → ∀ {w : World} {k : Int} {o n : ByteArray} {ns ps : Sl} {k2 : Int} {o2 n2 : ByteArray} {ns2 ps2 : Sl}, ShV w k o n ns ps s → ShV w k2 o2 n2 ns2 ps2 s' →
  AnsB 45 #[shArg k o n ns ps, shArg k2 o2 n2 ns2 ps2] w (eqS s s')
 | 0, s, _, h, _, _, _, _, _, _, _, _, _, _, _, _, _ => by have := size_pos s; omega
 | d + 1, .mk kA oA nA nsA psA, .mk kB oB nB nsB psB, hd, w, k, o, n, ns, ps, k2, o2, n2, ns2, ps2, hv, hv2 => by
  rw [size_mk] at hd
  obtain ⟨ek, eo, en, ⟨hns, hnl, hpn, hpl, _⟩, hps⟩ := hv.parts
  obtain ⟨ek2, eo2, en2, ⟨hns2, hnl2, hpn2, hpl2, _⟩, hps2⟩ := hv2.parts
  change k = kA at ek
  change bl o = oA at eo
  change bl n = nA at en
  change k2 = kB at ek2
  change bl o2 = oB at eo2
  change bl n2 = nB at en2
  change RdS w ns (nsA.map bs) at hns
  change RdS w ns2 (nsB.map bs) at hns2
  change nsA.length < 4611686018427387904 at hnl
  change nsB.length < 4611686018427387904 at hnl2
  change ps.n = psA.length at hpn
  change ps2.n = psB.length at hpn2
  change psA.length < 4611686018427387904 at hpl
  change ShL w ps.a 0 psA at hps
  change ShL w ps2.a 0 psB at hps2
  have hnn := hns.1
  have hnn2 := hns2.1
  rw [List.length_map] at hnn hnn2
  have heq : eqS (.mk kA oA nA nsA psA) (.mk kB oB nB nsB psB) = (decide (kA = kB) && oA == oB && nA == nB && nsA == nsB && eqL psA psB) := by rw [eqS]
  apply c45
  unfold t45 wrZ svZ shZ ldIZ ldSZ ldLZ ld5xZ nw5Z caBZ jn0Z jnBZ lpIZ ixZ
  refine new_ok fun w1 m10 hm10 hs1 B1 F1 => new_ok fun w2 m11 hm11 hs2 C2 F2 => ?_
  have B2 := B1.fr F2 (fun h => h)
  change Blk w2 m10 _ (shCells k o n ns ps) at B2
  change Blk w2 m11 _ (shCells k2 o2 n2 ns2 ps2) at C2
  have F12 := F1.tr F2
  clear B1
  refine join1_ok (c := .bool) (fun (b : Bool) w' => w' = w2 ∧ if b then eqS (.mk kA oA nA nsA psA) (.mk kB oB nB nsB psB) = false else (kA = kB ∧ oA = oB ∧ nA = nB ∧ nsA.length = nsB.length ∧ psA.length = psB.length)) (fun kj hkj => ?_) ?_
  ·refine B2.ld (c := .int .i64) (x := k) (o := 0) rfl (C2.ld (c := .int .i64) (x := k2) (o := 0) rfl (ite_ok (fun h1 => hkj _ _ ⟨rfl, ?_⟩) fun h1 => ?_))
   ·have h1 : kA ≠ kB := by rw [← ek, ← ek2]; simpa using h1
    rw [if_pos rfl, heq, decide_eq_false h1]
    rfl
   have h1 : kA = kB := by rw [← ek, ← ek2]; simpa using h1
   refine B2.ld (c := .str) (x := o) (o := 1) rfl (C2.ld (c := .str) (x := o2) (o := 1) rfl ?_)
   rw [eq_bl, eo, eo2]
   refine ite_ok (fun h2 => hkj _ _ ⟨rfl, ?_⟩) fun h2 => ?_
   ·have h2 : (oA == oB) = false := by simpa using h2
    rw [if_pos rfl, heq, h2, Bool.and_false]
    rfl
   have h2 : oA = oB := by simpa using h2
   refine B2.ld (c := .str) (x := n) (o := 2) rfl (C2.ld (c := .str) (x := n2) (o := 2) rfl ?_)
   rw [eq_bl, en, en2]
   refine ite_ok (fun h3 => hkj _ _ ⟨rfl, ?_⟩) fun h3 => ?_
   ·have h3 : (nA == nB) = false := by simpa using h3
    rw [if_pos rfl, heq, h3, Bool.and_false]
    rfl
   have h3 : nA = nB := by simpa using h3
   refine B2.ldS (o := 3) rfl (C2.ldS (o := 3) rfl (ite_ok (fun h4 => hkj _ _ ⟨rfl, ?_⟩) fun h4 => ?_))
   ·have h4 : ((ns.n : Nat) : Int) ≠ (ns2.n : Nat) := by simpa using h4
    have h4 : (nsA == nsB) = false := by
     rw [beq_eq_false_iff_ne]
     intro e
     rw [e] at hnn
     omega
    rw [if_pos rfl, heq, h4, Bool.and_false]
    rfl
   have h4 : ((ns.n : Nat) : Int) = (ns2.n : Nat) := by simpa using h4
   refine B2.ldS (o := 4) rfl (C2.ldS (o := 4) rfl (hkj _ _ ⟨rfl, ?_⟩))
   by_cases h5 : psA.length = psB.length
   ·rw [if_neg (by simp only [bne_iff_ne, ne_eq]; omega)]
    exact ⟨h1, h2, h3, by omega, h5⟩
   ·rw [if_pos (by simp only [bne_iff_ne, ne_eq]; omega), heq]
    have : eqL psA psB = false := by
     rw [Bool.eq_false_iff]
     intro h
     exact h5 (eqL_len h)
    rw [this, Bool.and_false]
  rintro b w' ⟨rfl, hb⟩
  refine ite_ok (fun h => ?_) fun h => ?_
  ·rw [h, if_pos rfl] at hb
   exact ⟨by rw [hb], F12⟩
  rw [h, if_neg (by simp)] at hb
  obtain ⟨h1, h2, h3, h4, h5⟩ := hb
  have heq2 : eqS (.mk kA oA nA nsA psA) (.mk kB oB nB nsB psB) = (nsA == nsB && eqL psA psB) := by
   rw [heq, h1, h2, h3]
   simp
  refine join0_ok (fun w3 => nsA = nsB ∧ Fr noB w' w3) (fun kend hkend => ?_) fun w3 ⟨hnm, F3⟩ => ?_
  ·refine countL_ok nsA.length (by omega) (fun i w3 => (∀ j, j < i → nsA[j]? = nsB[j]?) ∧ Fr noB w' w3) (fun rec i w3 hi hI hrec => ?_) ⟨fun j h => by omega, Fr.refl _ _⟩
   obtain ⟨hdone, F3⟩ := hI
   have B3 := B2.fr F3 (fun h => h)
   refine B3.ldS (o := 3) rfl (ite_ok (fun hlt => ?_) fun hge => hkend _ ⟨?_, F3⟩)
   ·have hlt : (i : Int) < (ns.n : Int) := of_decide_eq_true hlt
    obtain ⟨x, hx⟩ : ∃ x, nsA[i]? = some x := ⟨_, List.getElem?_eq_getElem (by omega)⟩
    obtain ⟨y, hy⟩ : ∃ y, nsB[i]? = some y := ⟨_, List.getElem?_eq_getElem (by omega)⟩
    refine join_in (vs := []) (drew_ok fun w4 F4 z4 => ?_)
    have F34 := F3.tr F4
    refine (B2.fr F34 (fun h => h)).ldS (o := 3) rfl (str_ld (hns.fr (F12.tr F34)) hx ((C2.fr F34 (fun h => h)).ldS (o := 3) rfl (str_ld (hns2.fr (F12.tr F34)) hy ?_)))
    rw [eq_bl, bl_bs, bl_bs]
    refine ite_ok (fun hne => ⟨?_, F12.tr F34⟩) fun he => hrec (by omega) _ ⟨fun j hj => ?_, F34⟩
    ·have hne : x ≠ y := by simpa using hne
     have : (nsA == nsB) = false := by
      rw [beq_eq_false_iff_ne]
      intro e
      rw [e, hy] at hx
      exact hne (Option.some.inj hx).symm
     rw [heq2, this]
     rfl
    ·have he : x = y := by simpa using he
     rcases Nat.lt_succ_iff_lt_or_eq.1 hj with hj | rfl
     ·exact hdone j hj
     ·rw [hx, hy, he]
   ·have hge : ¬ (i : Int) < (ns.n : Int) := of_decide_eq_false hge
    apply List.ext_getElem?
    intro j
    by_cases hj : j < i
    ·exact hdone j hj
    ·rw [List.getElem?_eq_none (by omega), List.getElem?_eq_none (by omega)]
  have F123 := F12.tr F3
  have B3 := B2.fr F3 (fun h => h)
  have C3 := C2.fr F3 (fun h => h)
  rw [hnm] at heq2
  have heq3 : eqS (.mk kA oA nA nsA psA) (.mk kB oB nB nsB psB) = eqL psA psB := by
   rw [hnm, heq2]
   simp
  refine join0_ok (fun w4 => eqL psA psB = true ∧ Fr noB w w4) (fun kend hkend => ?_) fun w4 ⟨hp, F4⟩ => ⟨by rw [heq3, hp], F4⟩
  refine countL_ok psA.length (by omega) (fun i w4 => (∀ (j : Nat) (a b : Shape), j < i → psA[j]? = some a → psB[j]? = some b → eqS a b = true) ∧ Fr noB w3 w4) (fun rec i w4 hi hI hrec => ?_) ⟨fun j a b h => by omega, Fr.refl _ _⟩
  obtain ⟨hdone, F4⟩ := hI
  have B4 := B3.fr F4 (fun h => h)
  refine B4.ldS (o := 4) rfl (ite_ok (fun hlt => ?_) fun hge => hkend _ ⟨eqL_of h5 fun j a b ha hb => ?_, F123.tr F4⟩)
  ·have hlt : (i : Int) < (ps.n : Int) := of_decide_eq_true hlt
   obtain ⟨x, hx⟩ : ∃ x, psA[i]? = some x := ⟨_, List.getElem?_eq_getElem (by omega)⟩
   obtain ⟨y, hy⟩ : ∃ y, psB[i]? = some y := ⟨_, List.getElem?_eq_getElem (by omega)⟩
   have hsz := size_mem (List.mem_of_getElem? hx)
   refine join_in (vs := []) (drew_ok fun w5 F5 z5 => ?_)
   have F45 := F4.tr F5
   have B5 := B3.fr F45 (fun h => h)
   have C5 := C3.fr F45 (fun h => h)
   refine B5.ldS (o := 4) rfl (part_ld (hps.fr (F123.tr F45)) hx hpn fun k1 o1 n1 ns1 ps1 hv1 => ?_)
   refine C5.ldS (o := 4) rfl (part_ld (hps2.fr (F123.tr F45)) hy hpn2 fun k3 o3 n3 ns3 ps3 hv3 => ?_)
   refine callB_ok (requal_ok d x y (by omega) hv1 hv3) fun w6 F6 => ?_
   refine keep_cons ((C5.fr F6 (fun h => h)).held1 rfl) (keep_cons ((B5.fr F6 (fun h => h)).held1 rfl) (keep_nil ?_))
   refine ite_ok (fun hne => ⟨?_, (F123.tr F45).tr F6⟩) fun he => hrec (by omega) _ ⟨fun j a b hj ha hb => ?_, F45.tr F6⟩
   ·have hne : eqS x y = false := by simpa using hne
    rw [heq3]
    have : eqL psA psB = false := by
     rw [Bool.eq_false_iff]
     intro h
     rw [eqL_at h hx hy] at hne
     cases hne
    rw [this]
   ·have he : eqS x y = true := by simpa using he
    rcases Nat.lt_succ_iff_lt_or_eq.1 hj with hj | rfl
    ·exact hdone j a b hj ha hb
    ·rw [hx] at ha
     rw [hy] at hb
     cases ha
     cases hb
     exact he
  ·have hge : ¬ (i : Int) < (ps.n : Int) := of_decide_eq_false hge
   have := (List.getElem?_eq_some_iff.1 ha).1
   exact hdone j a b (by omega) ha hb
end Go.Proofs.YticokfpaoiekgaaGreatDoor
end
