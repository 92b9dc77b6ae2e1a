/- The law behind: one part of its proof (joined by program out of my own texts). No condition. -/
import Derived.Test.YtngfnokbdcjoeaaGreatDoorValAL
section
namespace Go.Shp
open Go.Lex
def g1 (k : Int) (o : B) (ns : List B) : Bool := (decide (k ≠ 5) && !ns.isEmpty) || (decide (k ≠ 7) && !o.isEmpty)
def g2 (k z : Int) : Bool := decide (k ≠ 1) && (decide (k ≠ 3) && (decide (k ≠ 8) && decide (z ≠ 0)))
def g3 (k : Int) (t : B) : Bool := decide (k ≠ 2) && (decide (k ≠ 6) && (decide (k ≠ 7) && !t.isEmpty))
def vrest (k z : Int) (o t : B) (ns : List B) (ps : List Shape) : Bool :=
 if k = 1 ∨ k = 2 then ps.isEmpty
 else if k = 3 then ps.isEmpty && (decide (z ≥ 0) && decide (z ≤ 1))
 else if k = 8 then ps.isEmpty && (decide (z ≥ 0) && decide (z ≤ 1000))
 else if k = 4 then true
 else if k = 5 then namedOk ns ps.length
 else if k = 6 then decide (ps.length = 1) && isName t
 else if k = 7 then decide (ps.length = 1) && (isUpper t && isName o)
 else false
theorem vform_eq (q : Int) (o t : B) (ns : List B) (ps : List Shape) : vform (.mk q o t ns ps) = (!g1 (kOf q) o ns && (!g2 (kOf q) (zOf q) && (!g3 (kOf q) t && vrest (kOf q) (zOf q) o t ns ps))) := by
 unfold vform g1 g2 g3 vrest
 simp only []
 have z1 : decide (zOf q = 0 ∨ zOf q = 1) = (decide (zOf q ≥ 0) && decide (zOf q ≤ 1)) := by
  rw [Bool.eq_iff_iff]
  simp only [decide_eq_true_eq, Bool.and_eq_true]
  omega
 have z2 : decide (0 ≤ zOf q ∧ zOf q ≤ 1000) = (decide (zOf q ≥ 0) && decide (zOf q ≤ 1000)) := by
  rw [Bool.eq_iff_iff]
  simp only [decide_eq_true_eq, Bool.and_eq_true]
 rw [z1, z2]
 generalize zOf q = z
 generalize kOf q = k
 generalize isName t = nt
 generalize isName o = no
 generalize isUpper t = ut
 generalize namedOk ns ps.length = nd
 generalize ht : t.isEmpty = te
 generalize ho : o.isEmpty = oe
 generalize hn : ns.isEmpty = ne
 generalize hp : ps.isEmpty = pe
 by_cases h1 : k = 1
 ·subst h1; cases te <;> cases oe <;> cases ne <;> simp
 by_cases h2 : k = 2
 ·subst h2; cases te <;> cases oe <;> cases ne <;> by_cases hz : z = 0 <;> simp [hz]
 by_cases h3 : k = 3
 ·subst h3; cases te <;> cases oe <;> cases ne <;> simp
 by_cases h4 : k = 4
 ·subst h4; cases te <;> cases oe <;> cases ne <;> by_cases hz : z = 0 <;> simp [hz]
 by_cases h5 : k = 5
 ·subst h5; cases te <;> cases oe <;> by_cases hz : z = 0 <;> simp [hz]
 by_cases h6 : k = 6
 ·subst h6; cases oe <;> cases ne <;> by_cases hz : z = 0 <;> simp [hz, Bool.and_comm]
 by_cases h7 : k = 7
 ·subst h7; cases ne <;> by_cases hz : z = 0 <;> cases nt <;> cases no <;> cases ut <;> simp [hz]
 by_cases h8 : k = 8
 ·subst h8; cases te <;> cases oe <;> cases ne <;> simp
 simp [h1, h2, h3, h4, h5, h6, h7, h8]
end Go.Shp
namespace Go.Lift
theorem Blk.ldW {R : Ending → World → Prop} {w : World} {m : Nat} {t : TypeId} {k z : Int} {o n : ByteArray} {ns ps : Sl} (B : Blk w m t (vaCells k z o n ns ps)) {K : Int → Int → ByteArray → ByteArray → Sl → Sl → G} (h : K k z o n ns ps R w) :
  ldG (.int .i64) ⟨m, 0, none⟩ (fun (k : Int) => ldG (.int .i64) ⟨m, 1, none⟩ (fun (z : Int) => ldG .str ⟨m, 2, none⟩ (fun (o : ByteArray) => ldG .str ⟨m, 3, none⟩ (fun (n : ByteArray) => ldG .slice ⟨m, 4, none⟩ (fun (ns : Sl) => ldG .slice ⟨m, 5, none⟩ (fun (ps : Sl) => K k z o n ns ps)))))) R w :=
 B.ld (c := .int .i64) (x := k) (o := 0) rfl (B.ld (c := .int .i64) (x := z) (o := 1) rfl (B.ld (c := .str) (x := o) (o := 2) rfl (B.ld (c := .str) (x := n) (o := 3) rfl (B.ldS (o := 4) rfl (B.ldS (o := 5) rfl h)))))
theorem Blk.heldW {w : World} {m : Nat} {t : TypeId} {k z : Int} {o n : ByteArray} {ns ps : Sl} (B : Blk w m t (vaCells k z o n ns ps)) : Held w (⟨m, 0, none⟩, [.int .i64 k, .int .i64 z, .string o, .string n, .slice ns.a ns.n ns.c, .slice ps.a ps.n ps.c]) :=
 B.held fun j v hj => by rw [Nat.zero_add]; exact hj
end Go.Lift
namespace Go.Proofs.YtngfnokbdcjoeaaGreatDoor
open Go.Lift Go.Lex Go.Shp
theorem vSize_ok : ∀ (d : Nat) (s : Shape), size s ≤ d → ∀ {w : World} {k z : Int} {o n : ByteArray} {ns ps : Sl} (m : Nat), m ≤ 1000000 → VaV w k z o n ns ps s →
  Calls Tryz.prog 12 #[vaArg k z o n ns ps, .int .i64 (m : Int)] w fun e w' => e = .returned (.int .i64 ((refSize s m : Nat) : Int)) ∧ Fr noB w w'
 | 0, s, h, _, _, _, _, _, _, _, _, _, _ => by have := size_pos s; omega
 | d + 1, .mk k' o' n' names parts, hd, w, k, z, o, n, ns, ps, m, hm, hv => by
  rw [size_mk] at hd
  obtain ⟨_, _, _, ⟨_, _, _, hpn, hpl, _⟩, hps⟩ := hv.parts
  change ps.n = parts.length at hpn
  change parts.length < 4611686018427387904 at hpl
  change VaL w ps.a 0 parts at hps
  have hle := (refSize_le (.mk k' o' n' names parts) m).1
  apply c12
  unfold t12 wrZ ivZ ldLZ ld6xZ vaZ nw6Z caIZ jnBZ jnIZ lpIIZ ixZ
  refine new_ok fun w1 m6 hm6 hs1 B1 F1 => ?_
  change Blk w1 m6 _ (vaCells k z o n ns ps) at B1
  refine join1_ok (c := .int .i64) (fun (x : Int) w' => x = ((refSize (.mk k' o' n' names parts) m : Nat) : Int) ∧ Fr noB w w') (fun k7 hk7 => ?_) (fun x w' ⟨h1, F⟩ => ⟨by rw [h1], F⟩)
  refine loop_ok (vs := [.one (.int .i64), .one (.int .i64)]) (fun xs w' => ∃ i c : Nat, (show Int from xs.1.1) = (c : Int) ∧ (show Int from xs.2.1.1) = (i : Int) ∧ i ≤ parts.length ∧ c ≤ m + 1 ∧ 1 ≤ c ∧ refSizes (parts.drop i) m c = refSize (.mk k' o' n' names parts) m ∧ Fr noB w1 w')
   (fun xs => parts.length - (show Int from xs.2.1.1).toNat) ?_ (xs := (((1 : Int), ()), (((0 : Int), ()), ()))) ⟨0, 1, rfl, rfl, Nat.zero_le _, by omega, Nat.le_refl _, by rw [List.drop_zero, refSize], Fr.refl _ _⟩
  rintro rec ⟨⟨c', ⟨⟩⟩, ⟨⟨i', ⟨⟩⟩, ⟨⟩⟩⟩ w2 ⟨i, c, hc, hi, hil, hcm, hc1, hq, F2⟩ hrec
  change Int at c'
  change Int at i'
  change c' = _ at hc
  change i' = _ at hi
  subst hc hi
  have B2 := B1.fr F2 (fun h => h)
  refine join1_ok (c := .bool) (fun (b : Bool) w' => b = (decide (i < parts.length) && decide (c ≤ m)) ∧ w' = w2) (fun kj hkj => B2.ldS (o := 5) rfl (ite_ok (fun h => hkj _ _ ⟨?_, rfl⟩) fun h => hkj _ _ ⟨?_, rfl⟩)) ?_
  ·have h : (i : Int) < (ps.n : Int) := of_decide_eq_true h
   rw [decide_eq_true (by omega : i < parts.length), Bool.true_and]
   exact decide_eq_decide.2 (by omega)
  ·have h : ¬ (i : Int) < (ps.n : Int) := of_decide_eq_false h
   rw [decide_eq_false (by omega : ¬ i < parts.length), Bool.false_and]
  rintro b w3 ⟨rfl, hw⟩
  replace hw := hw.symm
  subst hw
  by_cases hgo : i < parts.length ∧ c ≤ m
  ·obtain ⟨s, hs⟩ : ∃ s, parts[i]? = some s := ⟨_, List.getElem?_eq_getElem hgo.1⟩
   have hsz := size_mem (List.mem_of_getElem? hs)
   have hrs := refSize_le s (m - c)
   refine ite_yes (by rw [decide_eq_true hgo.1, decide_eq_true hgo.2]; rfl) (join_in (vs := [.one (.int .i64)]) (B2.ldS (o := 5) rfl ?_))
   refine vpart_ld (hps.fr (F1.tr F2)) hs hpn fun k1 z1 o1 n1 ns1 ps1 hv1 => ?_
   have ewm : IntKind.wrap .i64 ((m : Int) - (c : Int)) = ((m - c : Nat) : Int) := by rw [wrap_ok (by omega) (by omega)]; omega
   rw [ewm]
   refine callI_ok (vSize_ok d s (by omega) (m - c) (by omega) hv1) fun w4 F4 => ?_
   have ewc : IntKind.wrap .i64 ((c : Int) + ((refSize s (m - c) : Nat) : Int)) = ((c + refSize s (m - c) : Nat) : Int) := by rw [wrap_ok (by omega) (by omega)]; omega
   have ewi : IntKind.wrap .i64 ((i : Int) + 1) = ((i + 1 : Nat) : Int) := by rw [wrap_ok (by omega) (by omega)]; omega
   show uncV rec ((IntKind.wrap .i64 ((c : Int) + ((refSize s (m - c) : Nat) : Int)), ()), ((IntKind.wrap .i64 ((i : Int) + 1), ()), ())) _ w4
   rw [ewc, ewi]
   exact hrec _ _ ⟨i + 1, c + refSize s (m - c), rfl, rfl, by omega, by omega, by omega, by rw [← hq, refSizes_drop hs hgo.2], F2.tr F4⟩ (by show parts.length - ((i + 1 : Nat) : Int).toNat < parts.length - ((i : Nat) : Int).toNat; simp only [Int.toNat_natCast]; omega)
  ·refine ite_no ?_ (hk7 _ _ ⟨?_, F1.tr F2⟩)
   ·rw [Bool.eq_false_iff]
    intro h
    rw [Bool.and_eq_true] at h
    exact hgo ⟨of_decide_eq_true h.1, of_decide_eq_true h.2⟩
   ·rw [← hq]
    by_cases hcm' : c ≤ m
    ·have : parts.length ≤ i := by
      rcases Nat.lt_or_ge i parts.length with h | h
      ·exact absurd ⟨h, hcm'⟩ hgo
      ·exact h
     rw [List.drop_of_length_le this, refSizes]
    ·rw [refSizes_stop (by omega)]
theorem vDeep_ok : ∀ (d : Nat) (s : Shape), size s ≤ d → size s ≤ 100000 → ∀ {w : World} {k z : Int} {o n : ByteArray} {ns ps : Sl}, VaV w k z o n ns ps s →
  Calls Tryz.prog 27 #[vaArg k z o n ns ps] w fun e w' => e = .returned (.int .i64 ((deep s : Nat) : Int)) ∧ Fr noB w w'
 | 0, s, h, _, _, _, _, _, _, _, _, _ => by have := size_pos s; omega
 | d + 1, .mk k' o' n' names parts, hd, hbig, w, k, z, o, n, ns, ps, hv => by
  rw [size_mk] at hd hbig
  obtain ⟨_, _, _, ⟨_, _, _, hpn, hpl, _⟩, hps⟩ := hv.parts
  change ps.n = parts.length at hpn
  change parts.length < 4611686018427387904 at hpl
  change VaL w ps.a 0 parts at hps
  have hdl := deeps_le_sizes parts
  apply c27
  unfold t27 wrZ ivZ ldLZ ld6xZ vaZ nw6Z caIZ jnIZ lpIIZ ixZ
  refine new_ok fun w1 m5 hm5 hs1 B1 F1 => ?_
  change Blk w1 m5 _ (vaCells k z o n ns ps) at B1
  refine join1_ok (c := .int .i64) (fun (x : Int) w' => x = ((deeps parts : Nat) : Int) ∧ Fr noB w w') (fun k7 hk7 => ?_) (fun x w' ⟨h1, F⟩ => ⟨?_, F⟩)
  rotate_left
  ·rw [h1, wrap_ok (by omega) (by omega), deep_mk]
   congr 3
   omega
  refine loop_ok (vs := [.one (.int .i64), .one (.int .i64)]) (fun xs w' => ∃ i : Nat, (show Int from xs.1.1) = ((deeps (parts.take i) : Nat) : Int) ∧ (show Int from xs.2.1.1) = (i : Int) ∧ i ≤ parts.length ∧ Fr noB w1 w')
   (fun xs => parts.length - (show Int from xs.2.1.1).toNat) ?_ (xs := (((0 : Int), ()), (((0 : Int), ()), ()))) ⟨0, rfl, rfl, Nat.zero_le _, Fr.refl _ _⟩
  rintro rec ⟨⟨c', ⟨⟩⟩, ⟨⟨i', ⟨⟩⟩, ⟨⟩⟩⟩ w2 ⟨i, hc, hi, hil, F2⟩ hrec
  change Int at c'
  change Int at i'
  change c' = _ at hc
  change i' = _ at hi
  subst hc hi
  have B2 := B1.fr F2 (fun h => h)
  refine B2.ldS (o := 5) rfl (ite_ok (fun h => ?_) fun h => hk7 _ _ ⟨?_, F1.tr F2⟩)
  rotate_left
  ·have h : ¬ (i : Int) < (ps.n : Int) := of_decide_eq_false h
   rw [List.take_of_length_le (by omega)]
  have h : (i : Int) < (ps.n : Int) := of_decide_eq_true h
  obtain ⟨s, hs⟩ : ∃ s, parts[i]? = some s := ⟨_, List.getElem?_eq_getElem (by omega)⟩
  have hsz := size_mem (List.mem_of_getElem? hs)
  refine join_in (vs := [.one (.int .i64)]) (B2.ldS (o := 5) rfl ?_)
  refine vpart_ld (hps.fr (F1.tr F2)) hs hpn fun k1 z1 o1 n1 ns1 ps1 hv1 => ?_
  refine callI_ok (vDeep_ok d s (by omega) (by omega) hv1) fun w3 F3 => ?_
  have ewi : IntKind.wrap .i64 ((i : Int) + 1) = ((i + 1 : Nat) : Int) := by rw [wrap_ok (by omega) (by omega)]; omega
  have next : ∀ {x : Int}, x = ((deeps (parts.take (i + 1)) : Nat) : Int) → uncV rec ((x, ()), ((IntKind.wrap .i64 ((i : Int) + 1), ()), ())) _ w3 := fun {x} hx => by
   rw [ewi]
   exact hrec _ _ ⟨i + 1, hx, rfl, by omega, F2.tr F3⟩ (by show parts.length - ((i + 1 : Nat) : Int).toNat < parts.length - ((i : Nat) : Int).toNat; simp only [Int.toNat_natCast]; omega)
  have e := deeps_take hs
  refine join_in (vs := [.one (.int .i64)]) (ite_ok (fun h => next ?_) fun h => next ?_)
  ·have h : ((deep s : Nat) : Int) > ((deeps (parts.take i) : Nat) : Int) := of_decide_eq_true h
   rw [e]
   omega
  ·have h : ¬ ((deep s : Nat) : Int) > ((deeps (parts.take i) : Nat) : Int) := of_decide_eq_false h
   rw [e]
   omega
section
variable {w : World}
theorem vnames_ok {l0 : Sl} {names : List B} (hR : RdS w l0 (names.map bs)) (hn : names.length < 4611686018427387904) (hs : ∀ x ∈ names, x.length < 4611686018427387904) (n : Nat) : AnsB 74 #[.slice l0.a l0.n l0.c, .int .i64 (n : Int)] w (namedOk names n) := by
 have hl0 := hR.1
 rw [List.length_map] at hl0
 apply c74
 unfold t74 wrZ tvZ ldSZ caBZ jn0Z lpIZ ixZ
 refine join0_ok (fun w' => names.all isName = true ∧ names.Nodup ∧ Fr noB w w') (fun kend hkend => ?_) ?_
 ·refine countL_ok names.length (by omega) (fun k w' => (∀ i x, i < k → names[i]? = some x → isName x = true) ∧ (∀ i j x, i < j → j < k → names[i]? = some x → names[j]? ≠ some x) ∧ Fr noB w w') (fun rec k w1 hk hI hrec => ?_) ⟨fun i x h => by omega, fun i j x _ h => by omega, Fr.refl _ _⟩
  obtain ⟨hall, hnd, F1⟩ := hI
  refine ite_ok (fun hlt => ?_) fun hge => hkend _ ⟨?_, ?_, F1⟩
  ·have hlt : (k : Int) < (l0.n : Int) := of_decide_eq_true hlt
   obtain ⟨x, hx⟩ : ∃ x, names[k]? = some x := ⟨_, List.getElem?_eq_getElem (by omega)⟩
   have hxl := hs x (List.mem_of_getElem? hx)
   refine join_in (vs := []) (str_ld (hR.fr F1) hx (callB_ok (rName_ok (bs x) (by rw [bs_size]; exact hxl)) fun w2 F2 => ?_))
   rw [bl_bs]
   by_cases hok : isName x = true
   ·refine ite_no (by rw [hok]; rfl) ?_
    refine join0_ok (fun w' => (∀ i, i < k → names[i]? ≠ some x) ∧ Fr noB w w') (fun kj hkj => ?_) fun w3 ⟨hno, F3⟩ => hrec (by omega) _ ⟨fun i y hi hy => ?_, fun i j y hij hj hy => ?_, F3⟩
    ·refine countL_ok k (by omega) (fun j w' => (∀ i, i < j → names[i]? ≠ some x) ∧ Fr noB w w') (fun rec2 j w3 hj hI hrec2 => ?_) ⟨fun i h => by omega, F1.tr F2⟩
     obtain ⟨hno, F3⟩ := hI
     refine ite_ok (fun hjk => ?_) fun hjk => hkj _ ⟨fun i hi => hno i ?_, F3⟩
     ·have hjk : (j : Int) < (k : Int) := of_decide_eq_true hjk
      obtain ⟨y, hy⟩ : ∃ y, names[j]? = some y := ⟨_, List.getElem?_eq_getElem (by omega)⟩
      refine join_in (vs := []) (drew_ok fun w4 F4 z4 => str_ld (hR.fr (F3.tr F4)) hy (str_ld (hR.fr (F3.tr F4)) hx ?_))
      rw [eq_bl, bl_bs, bl_bs]
      by_cases hxy : y = x
      ·refine ite_yes (by rw [hxy]; exact beq_self_eq_true _) ⟨?_, F3.tr F4⟩
       unfold namedOk
       have : ¬ names.Nodup := fun hh => by
        have h1 := (List.nodup_iff_pairwise_ne.1 hh)
        rw [List.pairwise_iff_getElem] at h1
        obtain ⟨q1, q2⟩ := List.getElem?_eq_some_iff.1 hy
        obtain ⟨q3, q4⟩ := List.getElem?_eq_some_iff.1 hx
        exact h1 j k q1 q3 (by omega) (by rw [q2, q4, hxy])
       rw [decide_eq_false this, Bool.and_false]
      ·refine ite_no (by simpa using hxy) (hrec2 (by omega) _ ⟨fun i hi => ?_, F3.tr F4⟩)
       rcases Nat.lt_succ_iff_lt_or_eq.1 hi with hi | rfl
       ·exact hno i hi
       ·rw [hy]
        intro e
        exact hxy (Option.some.inj e)
     ·have hjk : ¬ (j : Int) < (k : Int) := of_decide_eq_false hjk
      omega
    ·rcases Nat.lt_succ_iff_lt_or_eq.1 hi with hi | rfl
     ·exact hall i y hi hy
     ·rw [hx] at hy
      cases hy
      exact hok
    ·rcases Nat.lt_succ_iff_lt_or_eq.1 hj with hj | rfl
     ·exact hnd i j y hij hj hy
     ·intro e
      rw [hx] at e
      cases e
      exact hno i hij hy
   ·refine ite_yes (by simpa using hok) ⟨?_, F1.tr F2⟩
    unfold namedOk
    have : names.all isName = false := by
     rw [List.all_eq_false]
     exact ⟨x, List.mem_of_getElem? hx, hok⟩
    rw [this, Bool.and_false, Bool.false_and]
  ·have hge : ¬ (k : Int) < (l0.n : Int) := of_decide_eq_false hge
   rw [List.all_eq_true]
   intro x hx
   obtain ⟨i, hi⟩ := List.mem_iff_getElem?.1 hx
   have := (List.getElem?_eq_some_iff.1 hi).1
   exact hall i x (by omega) hi
  ·have hge : ¬ (k : Int) < (l0.n : Int) := of_decide_eq_false hge
   exact nodup_of fun i j x hij hx hj => by
    have := (List.getElem?_eq_some_iff.1 hj).1
    exact hnd i j x hij (by omega) hx hj
 rintro w1 ⟨h1, h2, F1⟩
 refine ⟨?_, F1⟩
 unfold namedOk
 rw [h1, decide_eq_true h2, Bool.and_true, Bool.and_true]
 congr 2
 rw [Bool.eq_iff_iff, beq_iff_eq, decide_eq_true_eq]
 omega
theorem bne_dec (k c : Int) : (k != c) = decide (k ≠ c) := by
 rw [Bool.eq_iff_iff, bne_iff_ne, decide_eq_true_eq]
set_option maxHeartbeats 2000000 in
theorem vform_ok {s : Shape} {k z : Int} {o n : ByteArray} {ns ps : Sl} (hv : VaV w k z o n ns ps s) : AnsB 45 #[vaArg k z o n ns ps] w (vform s) := by
 obtain ⟨q, o', n', names, parts⟩ := s
 obtain ⟨hq, rfl, rfl, ⟨⟨z1, z2⟩, hns, hnl, hpn, hpl, hos, hnz, hxl⟩, hps⟩ := hv.parts
 change q = vk k z at hq
 change RdS w ns (names.map bs) at hns
 replace hnl : names.length < 4611686018427387904 := by change names.length * 16 ≤ 140737488351232 at hnl; omega
 change ps.n = parts.length at hpn
 change ∀ x ∈ names, x.length < 4611686018427387904 at hxl
 have hnn := hns.1
 rw [List.length_map] at hnn
 subst hq
 apply c45
 unfold t45 ivZ tvZ svZ ldIZ ldSZ ldLZ nw6Z caBZ jn0Z jnBZ
 refine new_ok fun w1 m5 hm5 hs1 B1 F1 => ?_
 change Blk w1 m5 _ (vaCells k z o n ns ps) at B1
 have d0 : ∀ {K : Int → G} {R : Ending → World → Prop} {w' : World}, Fr noB w1 w' → K k R w' → ldG (.int .i64) ⟨m5, 0, none⟩ K R w' := fun F h => (B1.fr F (fun h => h)).ld (c := .int .i64) (o := 0) rfl h
 have d1 : ∀ {K : Int → G} {R : Ending → World → Prop} {w' : World}, Fr noB w1 w' → K z R w' → ldG (.int .i64) ⟨m5, 1, none⟩ K R w' := fun F h => (B1.fr F (fun h => h)).ld (c := .int .i64) (o := 1) rfl h
 have d2 : ∀ {K : ByteArray → G} {R : Ending → World → Prop} {w' : World}, Fr noB w1 w' → K o R w' → ldG .str ⟨m5, 2, none⟩ K R w' := fun F h => (B1.fr F (fun h => h)).ld (c := .str) (o := 2) rfl h
 have d3 : ∀ {K : ByteArray → G} {R : Ending → World → Prop} {w' : World}, Fr noB w1 w' → K n R w' → ldG .str ⟨m5, 3, none⟩ K R w' := fun F h => (B1.fr F (fun h => h)).ld (c := .str) (o := 3) rfl h
 have d4 : ∀ {K : Sl → G} {R : Ending → World → Prop} {w' : World}, Fr noB w1 w' → K ns R w' → ldG .slice ⟨m5, 4, none⟩ K R w' := fun F h => (B1.fr F (fun h => h)).ldS (o := 4) rfl h
 have e4 : (((ps.n : Nat) : Int) == 0) = parts.isEmpty := by rw [hpn]; exact len0 parts
 have e1 : (((ps.n : Nat) : Int) == 1) = decide (parts.length = 1) := by
  rw [hpn, Bool.eq_iff_iff, beq_iff_eq, decide_eq_true_eq]
  omega
 have R0 := Fr.refl noB w1
 have hT := vform_eq (vk k z) (bl o) (bl n) names parts
 rw [kOf_vk z1 z2, zOf_vk z1 z2] at hT
 rw [hT]
 clear hT hv
 refine B1.ldS (o := 5) rfl ?_
 have en : (decide (((ns.n : Nat) : Int) > 0)) = !names.isEmpty := by
  rw [hnn]
  cases names with
  | nil => rfl
  | cons a l => simp
 refine join1_ok (c := .bool) (fun (b : Bool) w' => b = g1 k (bl o) names ∧ w' = w1) (fun kj hkj => ?_) fun b w2 ⟨hb, hw⟩ => ?_
 ·have tail : (decide (k ≠ 5) && !names.isEmpty) = false → ldG (.int .i64) ⟨m5, 0, none⟩ (fun (n11 : Int) => iteG (n11 != 7) (ldG .str ⟨m5, 2, none⟩ (fun (s12 : ByteArray) => kj (!ByteArray.toList s12 == ByteArray.toList (ByteArray.mk #[])))) (kj false)) (fun e w' => e = .returned (.bool (!g1 k (bl o) names && (!g2 k z && (!g3 k (bl n) && vrest k z (bl o) (bl n) names parts)))) ∧ Fr noB w w') w1 := fun h0 => d0 R0 (by
   rw [bne_dec]
   refine ite_ok (fun h => d2 R0 (hkj _ _ ⟨?_, rfl⟩)) fun h => hkj _ _ ⟨?_, rfl⟩
   ·rw [emp_bl]
    unfold g1
    rw [h0, h]
    rfl
   ·unfold g1
    rw [h0, h]
    rfl)
  refine d0 R0 ?_
  rw [bne_dec]
  refine ite_ok (fun h => d4 R0 ?_) fun h => tail (by rw [h]; rfl)
  rw [en]
  refine ite_ok (fun h2 => hkj _ _ ⟨?_, rfl⟩) fun h2 => tail (by rw [h, h2]; rfl)
  unfold g1
  rw [h, h2]
  rfl
 replace hw := hw.symm
 subst hw
 refine ite_ok (fun h => ⟨by rw [← hb, h]; rfl, F1⟩) fun h => ?_
 rw [← hb, h, Bool.not_false, Bool.true_and]
 clear hb h
 refine join1_ok (c := .bool) (fun (b : Bool) w' => b = g2 k z ∧ w' = w1) (fun kj hkj => ?_) fun b w2 ⟨hb, hw⟩ => ?_
 ·unfold g2 at hkj
  refine d0 R0 ?_
  rw [bne_dec]
  refine ite_ok (fun h1 => d0 R0 ?_) fun h1 => hkj _ _ ⟨by rw [h1]; rfl, rfl⟩
  rw [bne_dec]
  refine ite_ok (fun h2 => d0 R0 ?_) fun h2 => hkj _ _ ⟨by rw [h1, h2]; rfl, rfl⟩
  rw [bne_dec]
  refine ite_ok (fun h3 => d1 R0 (hkj _ _ ⟨?_, rfl⟩)) fun h3 => hkj _ _ ⟨by rw [h1, h2, h3]; rfl, rfl⟩
  rw [h1, h2, h3, bne_dec]
  rfl
 replace hw := hw.symm
 subst hw
 refine ite_ok (fun h => ⟨by rw [← hb, h]; rfl, F1⟩) fun h => ?_
 rw [← hb, h, Bool.not_false, Bool.true_and]
 clear hb h
 refine join1_ok (c := .bool) (fun (b : Bool) w' => b = g3 k (bl n) ∧ w' = w1) (fun kj hkj => ?_) fun b w2 ⟨hb, hw⟩ => ?_
 ·unfold g3 at hkj
  refine d0 R0 ?_
  rw [bne_dec]
  refine ite_ok (fun h1 => d0 R0 ?_) fun h1 => hkj _ _ ⟨by rw [h1]; rfl, rfl⟩
  rw [bne_dec]
  refine ite_ok (fun h2 => d0 R0 ?_) fun h2 => hkj _ _ ⟨by rw [h1, h2]; rfl, rfl⟩
  rw [bne_dec]
  refine ite_ok (fun h3 => d3 R0 (hkj _ _ ⟨?_, rfl⟩)) fun h3 => hkj _ _ ⟨by rw [h1, h2, h3]; rfl, rfl⟩
  rw [h1, h2, h3, emp_bl]
  rfl
 replace hw := hw.symm
 subst hw
 refine ite_ok (fun h => ⟨by rw [← hb, h]; rfl, F1⟩) fun h => ?_
 rw [← hb, h, Bool.not_false, Bool.true_and]
 clear hb h
 generalize hV : vrest k z (bl o) (bl n) names parts = T
 unfold vrest at hV
 refine d0 R0 (join0_ok (fun w' => w' = w1 ∧ k ≠ 1 ∧ k ≠ 2 ∧ k ≠ 3 ∧ k ≠ 8 ∧ k ≠ 4 ∧ k ≠ 5 ∧ k ≠ 6 ∧ k ≠ 7) (fun k29 hk29 => ?_) fun w' ⟨hw, h1, h2, h3, h8, h4, h5, h6, h7⟩ => ?_)
 rotate_left
 ·replace hw := hw.symm
  subst hw
  rw [if_neg (by omega), if_neg h3, if_neg h8, if_neg h4, if_neg h5, if_neg h6, if_neg h7] at hV
  exact ⟨by rw [← hV], F1⟩
 refine join1_ok (c := .bool) (fun (b : Bool) w' => b = decide (k = 1 ∨ k = 2) ∧ w' = w1) (fun kj hkj => ite_ok (fun h => hkj _ _ ⟨?_, rfl⟩) fun h => hkj _ _ ⟨?_, rfl⟩) fun b w2 ⟨hb, hw⟩ => ?_
 ·rw [h]
  have h : k = 1 := by simpa using h
  exact (decide_eq_true (.inl h)).symm
 ·have h : ¬ k = 1 := by simpa using h
  rw [Bool.eq_iff_iff, beq_iff_eq, decide_eq_true_eq]
  omega
 replace hw := hw.symm
 subst hw
 refine ite_ok (fun h => ?_) fun h => ?_
 ·rw [hb] at h
  rw [if_pos (of_decide_eq_true h)] at hV
  rw [e4, ← hV]
  exact ⟨rfl, F1⟩
 rw [hb] at h
 have h12 := of_decide_eq_false h
 rw [if_neg h12] at hV
 clear hb h
 refine ite_ok (fun h3 => ?_) fun h3 => ?_
 ·have h3 : k = 3 := by simpa using h3
  rw [if_pos h3] at hV
  refine join1_ok (c := .bool) (fun (b : Bool) w' => b = (parts.isEmpty && (decide (z ≥ 0) && decide (z ≤ 1))) ∧ w' = w1) (fun kj hkj => ?_) fun b w2 ⟨hb, hw⟩ => by replace hw := hw.symm; subst hw; rw [← hV, ← hb]; exact ⟨rfl, F1⟩
  rw [e4]
  refine ite_ok (fun p1 => d1 R0 (ite_ok (fun p2 => d1 R0 (hkj _ _ ⟨by rw [p1, p2]; rfl, rfl⟩)) fun p2 => hkj _ _ ⟨by rw [p1, p2]; rfl, rfl⟩)) fun p1 => hkj _ _ ⟨by rw [p1]; rfl, rfl⟩
 have h3 : k ≠ 3 := by simpa using h3
 rw [if_neg h3] at hV
 refine ite_ok (fun h8 => ?_) fun h8 => ?_
 ·have h8 : k = 8 := by simpa using h8
  rw [if_pos h8] at hV
  refine join1_ok (c := .bool) (fun (b : Bool) w' => b = (parts.isEmpty && (decide (z ≥ 0) && decide (z ≤ 1000))) ∧ w' = w1) (fun kj hkj => ?_) fun b w2 ⟨hb, hw⟩ => by replace hw := hw.symm; subst hw; rw [← hV, ← hb]; exact ⟨rfl, F1⟩
  rw [e4]
  refine ite_ok (fun p1 => d1 R0 (ite_ok (fun p2 => d1 R0 (hkj _ _ ⟨by rw [p1, p2]; rfl, rfl⟩)) fun p2 => hkj _ _ ⟨by rw [p1, p2]; rfl, rfl⟩)) fun p1 => hkj _ _ ⟨by rw [p1]; rfl, rfl⟩
 have h8 : k ≠ 8 := by simpa using h8
 rw [if_neg h8] at hV
 refine ite_ok (fun h4 => ?_) fun h4 => ?_
 ·have h4 : k = 4 := by simpa using h4
  rw [if_pos h4] at hV
  exact ⟨by rw [← hV], F1⟩
 have h4 : k ≠ 4 := by simpa using h4
 rw [if_neg h4] at hV
 refine ite_ok (fun h5 => ?_) fun h5 => ?_
 ·have h5 : k = 5 := by simpa using h5
  rw [if_pos h5] at hV
  refine d4 R0 ?_
  rw [hpn]
  exact callB_ok (vnames_ok (hns.fr F1) hnl hxl parts.length) fun w3 F3 => ⟨by rw [← hV], F1.tr F3⟩
 have h5 : k ≠ 5 := by simpa using h5
 rw [if_neg h5] at hV
 refine ite_ok (fun h6 => ?_) fun h6 => ?_
 ·have h6 : k = 6 := by simpa using h6
  rw [if_pos h6] at hV
  refine join1_ok (c := .bool) (fun (b : Bool) w' => b = (decide (parts.length = 1) && isName (bl n)) ∧ Fr noB w1 w') (fun kj hkj => ?_) fun b w2 ⟨hb, F⟩ => by rw [← hV, ← hb]; exact ⟨rfl, F1.tr F⟩
  rw [e1]
  refine ite_ok (fun p1 => d3 R0 (callB_ok (rName_ok n hnz) fun w3 F3 => hkj _ _ ⟨by rw [p1]; rfl, F3⟩)) fun p1 => hkj _ _ ⟨by rw [p1]; rfl, R0⟩
 have h6 : k ≠ 6 := by simpa using h6
 rw [if_neg h6] at hV
 refine ite_ok (fun h7 => ?_) fun h7 => ?_
 ·have h7 : k = 7 := by simpa using h7
  rw [if_pos h7] at hV
  refine join1_ok (c := .bool) (fun (b : Bool) w' => b = (decide (parts.length = 1) && (isUpper (bl n) && isName (bl o))) ∧ Fr noB w1 w') (fun kj hkj => ?_) fun b w2 ⟨hb, F⟩ => by rw [← hV, ← hb]; exact ⟨rfl, F1.tr F⟩
  rw [e1]
  refine ite_ok (fun p1 => d3 R0 (callB_ok (rUpper_ok n hnz) fun w3 F3 => ite_ok (fun p2 => d2 F3 (callB_ok (rName_ok o hos) fun w4 F4 => hkj _ _ ⟨by rw [p1, p2]; rfl, F3.tr F4⟩)) fun p2 => hkj _ _ ⟨by rw [p1, p2]; rfl, F3⟩)) fun p1 => hkj _ _ ⟨by rw [p1]; rfl, R0⟩
 have h7 : k ≠ 7 := by simpa using h7
 exact hk29 _ ⟨rfl, by omega, by omega, h3, h8, h4, h5, h6, h7⟩
theorem vformed_ok : ∀ (d : Nat) (s : Shape), size s ≤ d → ∀ {w : World} {k z : Int} {o n : ByteArray} {ns ps : Sl}, VaV w k z o n ns ps s → AnsB 28 #[vaArg k z o n ns ps] w (formed s)
 | 0, s, h, _, _, _, _, _, _, _, _ => by have := size_pos s; omega
 | d + 1, .mk k' o' n' names parts, hd, w, k, z, o, n, ns, ps, hv => by
  rw [size_mk] at hd
  obtain ⟨_, _, _, ⟨_, _, _, hpn, hpl, _⟩, hps⟩ := hv.parts
  change ps.n = parts.length at hpn
  change parts.length < 4611686018427387904 at hpl
  change VaL w ps.a 0 parts at hps
  apply c28
  unfold t28 wrZ ldLZ ld6mZ ld6xZ vaZ nw6Z caBZ jn0Z lpIZ ixZ
  refine new_ok fun w1 m5 hm5 hs1 B1 F1 => ?_
  change Blk w1 m5 _ (vaCells k z o n ns ps) at B1
  refine B1.ldW ?_
  refine callB_ok (vform_ok (hv.fr F1)) fun w2 F2 => ?_
  have hall : formed (.mk k' o' n' names parts) = (vform (.mk k' o' n' names parts) && formeds parts) := by rw [formed]
  rw [hall]
  by_cases hf : vform (.mk k' o' n' names parts) = true
  rotate_left
  ·have hf : vform (.mk k' o' n' names parts) = false := by simpa using hf
   exact ite_yes (by rw [hf]; rfl) ⟨by rw [hf]; rfl, F1.tr F2⟩
  rw [hf, Bool.true_and]
  refine ite_no rfl ?_
  have F12 := F1.tr F2
  refine join0_ok (fun w' => formeds parts = true ∧ Fr noB w w') (fun kend hkend => ?_) (fun w' ⟨h, F⟩ => ⟨by rw [h], F⟩)
  refine count_ok parts.length hpl (fun i w' => (∀ j s, j < i → parts[j]? = some s → formed s = true) ∧ Fr noB w2 w') (fun rec i w3 hi hI hrec => ?_) ⟨fun j s h => by omega, Fr.refl _ _⟩
  obtain ⟨hdone, F3⟩ := hI
  have B3 := B1.fr (F2.tr F3) (fun h => h)
  refine B3.ldS (o := 5) rfl (ite_ok (fun hlt => ?_) fun hge => hkend _ ⟨formeds_of fun s hs => ?_, F12.tr F3⟩)
  ·have hlt : (i : Int) < (ps.n : Int) := of_decide_eq_true hlt
   obtain ⟨s, hs⟩ : ∃ s, parts[i]? = some s := ⟨_, List.getElem?_eq_getElem (by omega)⟩
   have hsz := size_mem (List.mem_of_getElem? hs)
   refine join_in (vs := []) (B3.ldS (o := 5) rfl ?_)
   refine vpart_ld (hps.fr (F12.tr F3)) hs hpn fun k1 z1 o1 n1 ns1 ps1 hv1 => ?_
   refine callB_ok (vformed_ok d s (by omega) hv1) fun w4 F4 => ?_
   by_cases hok : formed s = true
   ·refine ite_no (by rw [hok]; rfl) (hrec (by omega) _ ⟨fun j x hj hx => ?_, F3.tr F4⟩)
    rcases Nat.lt_succ_iff_lt_or_eq.1 hj with hj | rfl
    ·exact hdone j x hj hx
    ·rw [hs] at hx
     cases hx
     exact hok
   ·refine ite_yes (by simpa using hok) ⟨?_, (F12.tr F3).tr F4⟩
    have : formeds parts = false := by
     rw [Bool.eq_false_iff]
     intro h
     exact hok (formeds_mem h (List.mem_of_getElem? hs))
    rw [this]
  ·have hge : ¬ (i : Int) < (ps.n : Int) := of_decide_eq_false hge
   obtain ⟨j, hj⟩ := List.mem_iff_getElem?.1 hs
   have := (List.getElem?_eq_some_iff.1 hj).1
   exact hdone j s (by omega) hj
theorem vCheckS_ok {s : Shape} {k z : Int} {o n : ByteArray} {ns ps : Sl} (hv : VaV w k z o n ns ps s) : Calls Tryz.prog 10 #[vaArg k z o n ns ps] w fun e w' => e = .returned (.int .i64 ((vcheck s : Nat) : Int)) ∧ Fr noB w w' := by
 apply c10
 unfold t10 ivZ ld6mZ vaZ nw6Z caBZ caIZ
 refine new_ok fun w1 m5 hm5 hs1 B1 F1 => ?_
 change Blk w1 m5 _ (vaCells k z o n ns ps) at B1
 refine B1.ldW ?_
 refine callI_ok (vSize_ok (size s) s (Nat.le_refl _) 2000 (by omega) (hv.fr F1)) fun w2 F2 => ?_
 have hsp := refSize_spec s 2000
 have F12 := F1.tr F2
 unfold vcheck
 refine ite_ok (fun h => ⟨?_, F12⟩) fun h => ?_
 ·have h : ((refSize s 2000 : Nat) : Int) > 2000 := of_decide_eq_true h
  rw [if_pos (by rcases Nat.lt_or_ge 2000 (size s) with h1 | h1; exact h1; have := hsp.1 h1; omega)]
  rfl
 have h : ¬ ((refSize s 2000 : Nat) : Int) > 2000 := of_decide_eq_false h
 have hsz : ¬ 2000 < size s := fun h1 => by have := hsp.2 h1; omega
 rw [if_neg hsz]
 have B2 := B1.fr F2 (fun h => h)
 refine B2.ldW ?_
 refine callI_ok (vDeep_ok (size s) s (Nat.le_refl _) (by omega) (hv.fr F12)) fun w3 F3 => ?_
 refine ite_ok (fun h => ⟨?_, F12.tr F3⟩) fun h => ?_
 ·have h : ((deep s : Nat) : Int) > 40 := of_decide_eq_true h
  rw [if_pos (by omega)]
  rfl
 have h : ¬ ((deep s : Nat) : Int) > 40 := of_decide_eq_false h
 rw [if_neg (by omega)]
 have B3 := B2.fr F3 (fun h => h)
 refine B3.ldW ?_
 refine callB_ok (vformed_ok (size s) s (Nat.le_refl _) (hv.fr (F12.tr F3))) fun w4 F4 => ?_
 cases hf : formed s with
 | true => exact ite_no rfl ⟨rfl, (F12.tr F3).tr F4⟩
 | false => exact ite_yes rfl ⟨rfl, (F12.tr F3).tr F4⟩
end
end Go.Proofs.YtngfnokbdcjoeaaGreatDoor
end
section
namespace Go.Shp
theorem eqL_len : ∀ {l r : List Shape}, eqL l r = true → l.length = r.length
 | [], [], _ => rfl
 | [], _ :: _, h => by simp [eqL] at h
 | _ :: _, [], h => by simp [eqL] at h
 | a :: l, b :: r, h => by
  rw [eqL, Bool.and_eq_true] at h
  rw [List.length_cons, List.length_cons, eqL_len h.2]
theorem eqL_at : ∀ {l r : List Shape} {i : Nat} {a b : Shape}, eqL l r = true → l[i]? = some a → r[i]? = some b → eqS a b = true
 | [], _, _, _, _, _, h, _ => by simp at h
 | _ :: _, [], _, _, _, _, _, h => by simp at h
 | x :: l, y :: r, 0, a, b, h, ha, hb => by
  rw [eqL, Bool.and_eq_true] at h
  cases ha
  cases hb
  exact h.1
 | x :: l, y :: r, i + 1, a, b, h, ha, hb => by
  rw [eqL, Bool.and_eq_true] at h
  exact eqL_at (i := i) h.2 (by simpa using ha) (by simpa using hb)
theorem eqL_of : ∀ {l r : List Shape}, l.length = r.length → (∀ (i : Nat) (a b : Shape), l[i]? = some a → r[i]? = some b → eqS a b = true) → eqL l r = true
 | [], [], _, _ => by rw [eqL]
 | [], _ :: _, h, _ => by simp at h
 | _ :: _, [], h, _ => by simp at h
 | x :: l, y :: r, h, k => by
  rw [eqL, k 0 x y rfl rfl, Bool.true_and]
  exact eqL_of (by simpa using h) fun i a b ha hb => k (i + 1) a b (by simpa using ha) (by simpa using hb)
end Go.Shp
namespace Go.Proofs.YtngfnokbdcjoeaaGreatDoor
open Go.Lift Go.Lex Go.Shp
end Go.Proofs.YtngfnokbdcjoeaaGreatDoor
end
section
namespace Go.Lift
open Go.Shp
section
variable {R : Ending → World → Prop} {w : World}
theorem str_ldA {s : Sl} {l : List (List UInt8)} {i : Nat} {x : List UInt8} {K : Addr → ByteArray → G} (h : RdS w s (l.map bs)) (hx : l[i]? = some x) (hk : ∀ a, w.cell? a = some (.string (bs x)) → K a (bs x) R w) : idxG s.a s.n (i : Int) 1 (fun (a : Addr) => ldG .str a (K a)) R w := by
 have hi := (List.getElem?_eq_some_iff.1 hx).1
 obtain ⟨y, a, hy, ha, rd, hix⟩ := h.at (k := i) (by simpa using hi)
 rw [List.getElem?_map, hx] at hy
 cases hy
 rw [ha]
 exact hix (ld_ok (c := .str) (rd _ (Fr.refl _ _)) (hk _ (rd _ (Fr.refl _ _))))
theorem part_ld0 {w0 : World} {l : List Shape} {a : Option Addr} {len i : Nat} {s : Shape} {K : Int → ByteArray → ByteArray → Sl → Sl → G} (h : ShL w0 a 0 l) (F : Fr noB w0 w) (hs : l[i]? = some s) (hl : len = l.length)
  (hk : ∀ k o n ns ps, ShV w0 k o n ns ps s → K k o n ns ps R w) :
  idxG a len (i : Int) 5 (fun (x : Addr) => ldG (.int .i64) (x.add 0) (fun (k : Int) => ldG .str (x.add 1) (fun (o : ByteArray) => ldG .str (x.add 2) (fun (n : ByteArray) => ldG .slice (x.add 3) (fun (ns : Sl) => ldG .slice (x.add 4) (fun (ps : Sl) => K k o n ns ps)))))) R w := by
 obtain ⟨g, off, k, o, n, ns, ps, rfl, c0, c1, c2, c3, c4, hv⟩ := h.at hs
 have hi := (List.getElem?_eq_some_iff.1 hs).1
 rw [Nat.zero_add] at c0 c1 c2 c3 c4
 refine idxB_ok (n := len) (i := i) (by omega) ?_
 simp only [Addr.add_lit, Nat.add_zero]
 exact ld_ok (c := .int .i64) (F.cell c0 fun h => h) (ld_ok (c := .str) (F.cell c1 fun h => h) (ld_ok (c := .str) (F.cell c2 fun h => h) (ld_ok (c := .slice) (x := ns) (F.cell c3 fun h => h) (ld_ok (c := .slice) (x := ps) (F.cell c4 fun h => h) (hk k o n ns ps hv)))))
theorem st_fr {a b c : World} {m : Nat} (h : Fr (oneB m) a b) (k : Fr (oneB m) b c) : Fr (oneB m) a c := h.then k fun _ _ h => h
theorem fill_ok {m : Nat} {t : TypeId} {l : List Value} {v0 v1 v2 v3 v4 : Value} {k : G} (B : Blk w m t l) (hl : l.length = 5) (h0 : v0.oneCell' = true) (h1 : v1.oneCell' = true) (h2 : v2.oneCell' = true) (h3 : v3.oneCell' = true) (h4 : v4.oneCell' = true)
  (hk : ∀ w', Blk w' m t [v0, v1, v2, v3, v4] → Fr (oneB m) w w' → k R w') : stG ⟨m, 0, none⟩ v0 (stG ⟨m, 1, none⟩ v1 (stG ⟨m, 2, none⟩ v2 (stG ⟨m, 3, none⟩ v3 (stG ⟨m, 4, none⟩ v4 k)))) R w := by
 match l, hl with
 | [a, b, c, d, e], _ =>
  refine B.st h0 (by simp) fun w1 B1 F1 => B1.st h1 (by simp) fun w2 B2 F2 => B2.st h2 (by simp) fun w3 B3 F3 => B3.st h3 (by simp) fun w4 B4 F4 => B4.st h4 (by simp) fun w5 B5 F5 => ?_
  exact hk _ B5 (st_fr (st_fr (st_fr (st_fr F1 F2) F3) F4) F5)
theorem Fr.fill {a b c : World} {m : Nat} (h : Fr noB a b) (hm : a.heap.size ≤ m) (k : Fr (oneB m) b c) : Fr noB a c := h.then k fun x hx h => by unfold oneB at h; omega
theorem Blk.ldV {m : Nat} {t : TypeId} {k : Int} {o n : ByteArray} {ns ps : Sl} (B : Blk w m t (shCells k o n ns ps)) {K : Int → ByteArray → ByteArray → Sl → Sl → G} (h : K k o n ns ps R w) :
  ldG (.int .i64) ⟨m, 0, none⟩ (fun (k : Int) => ldG .str ⟨m, 1, none⟩ (fun (o : ByteArray) => ldG .str ⟨m, 2, none⟩ (fun (n : ByteArray) => ldG .slice ⟨m, 3, none⟩ (fun (ns : Sl) => ldG .slice ⟨m, 4, none⟩ (fun (ps : Sl) => K k o n ns ps))))) R w :=
 B.ld (c := .int .i64) (x := k) (o := 0) rfl (B.ld (c := .str) (x := o) (o := 1) rfl (B.ld (c := .str) (x := n) (o := 2) rfl (B.ldS (o := 3) rfl (B.ldS (o := 4) rfl h))))
theorem Blk.heldV {m : Nat} {t : TypeId} {k : Int} {o n : ByteArray} {ns ps : Sl} (B : Blk w m t (shCells k o n ns ps)) : Held w (⟨m, 0, none⟩, [.int .i64 k, .string o, .string n, .slice ns.a ns.n ns.c, .slice ps.a ps.n ps.c]) :=
 B.held fun j v hj => by rw [Nat.zero_add]; exact hj
end
end Go.Lift
namespace Go.Proofs.YtngfnokbdcjoeaaGreatDoor
open Go.Lift Go.Lex Go.Shp
section
variable {w : World}
theorem find_le {ns : List B} {ps : List Shape} {x : B} (h : ∀ i : Nat, ns[i]? ≠ some x) : find ns ps x = none := by
 induction ns generalizing ps with
 | nil => cases ps <;> rfl
 | cons y r ih =>
  cases ps with
  | nil => rfl
  | cons p ps =>
   unfold find
   rw [if_neg (fun e => h 0 (by rw [e]; rfl))]
   exact ih fun i => by simpa using h (i + 1)
theorem find_first : ∀ {ns : List B} {ps : List Shape} {x : B} {i : Nat} {q : Shape}, (∀ j, j < i → ns[j]? ≠ some x) → ns[i]? = some x → ps[i]? = some q → find ns ps x = some q
 | [], _, _, _, _, _, h, _ => by simp at h
 | _ :: _, [], _, _, _, _, _, h => by simp at h
 | y :: ns, p :: ps, x, 0, q, _, h1, h2 => by
  simp only [List.getElem?_cons_zero, Option.some.injEq] at h1 h2
  unfold find
  rw [if_pos h1, h2]
 | y :: ns, p :: ps, x, i + 1, q, h, h1, h2 => by
  unfold find
  rw [if_neg (fun e => h 0 (by omega) (by rw [e]; rfl))]
  exact find_first (i := i) (fun j hj => by simpa using h (j + 1) (by omega)) (by simpa using h1) (by simpa using h2)
end
end Go.Proofs.YtngfnokbdcjoeaaGreatDoor
end
section
namespace Go.Shp
open Go.Lex
end Go.Shp
namespace Go.Proofs.YtngfnokbdcjoeaaGreatDoor
open Go.Lift Go.Lex Go.Shp
end Go.Proofs.YtngfnokbdcjoeaaGreatDoor
end
section
namespace Go.Shp
open Go.Lex
theorem fits_five {o n : B} {ns : List B} {ps : List Shape} (h : fits (.mk 5 o n ns ps) = true) : ps.length = 1 := by
 unfold fits at h
 simp only [] at h
 rw [if_neg (by omega), if_pos trivial] at h
 simp only [Bool.and_eq_true, decide_eq_true_eq] at h
 exact h.2
theorem fits_eight {o n : B} {ns : List B} {ps : List Shape} (h : fits (.mk 8 o n ns ps) = true) : 0 < ps.length := by
 unfold fits at h
 simp only [] at h
 rw [if_neg (by omega), if_neg (by omega), if_neg (by omega), if_pos trivial] at h
 simp only [Bool.and_eq_true, decide_eq_true_eq] at h
 exact h.2
end Go.Shp
namespace Go.Proofs.YtngfnokbdcjoeaaGreatDoor
open Go.Lift Go.Lex Go.Shp
section
variable {w : World}
end
theorem nat0 {n : Nat} (h : ((n : Int) == 0) = true) : n = 0 := by simpa using h
end Go.Proofs.YtngfnokbdcjoeaaGreatDoor
end
