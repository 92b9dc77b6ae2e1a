/- The law behind: one part of its proof (joined by program out of my own texts). No condition. -/
import Derived.Test.YtngfnokbdcjoeaaGreatDoorValAJ
section
namespace Go.Lift
theorem str_ld {R : Ending → World → Prop} {w : World} {s : Sl} {l : List (List UInt8)} {i : Nat} {x : List UInt8} {K : ByteArray → G} (h : RdS w s (l.map bs)) (hx : l[i]? = some x) (hk : K (bs x) R w) : idxG s.a s.n (i : Int) 1 (fun (a : Addr) => ldG .str a K) R w := by
 have hi := (List.getElem?_eq_some_iff.1 hx).1
 obtain ⟨y, a, hy, ha, rd, hix⟩ := h.at (k := i) (by simpa using hi)
 rw [List.getElem?_map, hx] at hy
 cases hy
 rw [ha]
 exact hix (ld_ok (c := .str) (rd _ (Fr.refl _ _)) hk)
theorem countL_ok {body : (Int → G) → Int → G} {R : Ending → World → Prop} {w : World} (n : Nat) (hn : n ≤ 9223372036854775807) (I : Nat → World → Prop)
  (hbody : ∀ (rec : Int → G) (k : Nat) (w : World), k ≤ n → I k w → (k < n → ∀ w', I (k + 1) w' → rec (IntKind.wrap .i64 ((k : Int) + 1)) R w') → body rec (k : Int) R w)
  (h : I 0 w) : loopG [.one (.int .i64)] body (0 : Int) R w := by
 refine loop1_ok (c := .int .i64) (fun (i : Int) w' => ∃ k : Nat, i = (k : Int) ∧ k ≤ n ∧ I k w') (fun (i : Int) => n - i.toNat) ?_ ⟨0, rfl, Nat.zero_le _, h⟩
 rintro rec i w1 ⟨k, rfl, hk, hI⟩ hrec
 refine hbody rec k w1 hk hI fun hlt w' hI' => ?_
 have e : IntKind.wrap .i64 ((k : Int) + 1) = ((k + 1 : Nat) : Int) := by rw [wrap_ok (by omega) (by omega)]; omega
 rw [e]
 exact hrec _ _ ⟨k + 1, rfl, hlt, hI'⟩ (by simp only [Int.toNat_natCast]; omega)
end Go.Lift
namespace Go.Proofs.YtngfnokbdcjoeaaGreatDoor
open Go.Lift Go.Lex Go.Shp
section
variable {w : World}
theorem nodup_of {l : List B} (h : ∀ (i j : Nat) (x : B), i < j → l[i]? = some x → l[j]? ≠ some x) : l.Nodup := by
 rw [List.nodup_iff_pairwise_ne, List.pairwise_iff_getElem]
 intro i j hi hj hij e
 exact h i j _ hij (List.getElem?_eq_getElem hi) (by rw [e]; exact List.getElem?_eq_getElem hj)
theorem rnames_ok {l0 : Sl} {names : List B} (hR : RdS w l0 (names.map bs)) (hn : names.length < 4611686018427387904) (hs : ∀ x ∈ names, x.length < 4611686018427387904) (n : Nat) : AnsB 122 #[.slice l0.a l0.n l0.c, .int .i64 (n : Int)] w (namedOk names n) := by
 have hl0 := hR.1
 rw [List.length_map] at hl0
 apply c122
 unfold t122 wrZ tvZ ldSZ caBZ jn0Z lpIZ ixZ
 refine join0_ok (fun w' => names.all isName = true ∧ names.Nodup ∧ Fr noB w w') (fun kend hkend => ?_) ?_
 ·refine countL_ok names.length (by omega) (fun k w' => (∀ i x, i < k → names[i]? = some x → isName x = true) ∧ (∀ i j x, i < j → j < k → names[i]? = some x → names[j]? ≠ some x) ∧ Fr noB w w') (fun rec k w1 hk hI hrec => ?_) ⟨fun i x h => by omega, fun i j x _ h => by omega, Fr.refl _ _⟩
  obtain ⟨hall, hnd, F1⟩ := hI
  refine ite_ok (fun hlt => ?_) fun hge => hkend _ ⟨?_, ?_, F1⟩
  ·have hlt : (k : Int) < (l0.n : Int) := of_decide_eq_true hlt
   obtain ⟨x, hx⟩ : ∃ x, names[k]? = some x := ⟨_, List.getElem?_eq_getElem (by omega)⟩
   have hxl := hs x (List.mem_of_getElem? hx)
   refine join_in (vs := []) (str_ld (hR.fr F1) hx (callB_ok (rName_ok (bs x) (by rw [bs_size]; exact hxl)) fun w2 F2 => ?_))
   rw [bl_bs]
   by_cases hok : isName x = true
   ·refine ite_no (by rw [hok]; rfl) ?_
    refine join0_ok (fun w' => (∀ i, i < k → names[i]? ≠ some x) ∧ Fr noB w w') (fun kj hkj => ?_) fun w3 ⟨hno, F3⟩ => hrec (by omega) _ ⟨fun i y hi hy => ?_, fun i j y hij hj hy => ?_, F3⟩
    ·refine countL_ok k (by omega) (fun j w' => (∀ i, i < j → names[i]? ≠ some x) ∧ Fr noB w w') (fun rec2 j w3 hj hI hrec2 => ?_) ⟨fun i h => by omega, F1.tr F2⟩
     obtain ⟨hno, F3⟩ := hI
     refine ite_ok (fun hjk => ?_) fun hjk => hkj _ ⟨fun i hi => hno i ?_, F3⟩
     ·have hjk : (j : Int) < (k : Int) := of_decide_eq_true hjk
      obtain ⟨y, hy⟩ : ∃ y, names[j]? = some y := ⟨_, List.getElem?_eq_getElem (by omega)⟩
      refine join_in (vs := []) (drew_ok fun w4 F4 z4 => str_ld (hR.fr (F3.tr F4)) hy (str_ld (hR.fr (F3.tr F4)) hx ?_))
      rw [eq_bl, bl_bs, bl_bs]
      by_cases hxy : y = x
      ·refine ite_yes (by rw [hxy]; exact beq_self_eq_true _) ⟨?_, F3.tr F4⟩
       unfold namedOk
       have : ¬ names.Nodup := fun hh => by
        have h1 := (List.nodup_iff_pairwise_ne.1 hh)
        rw [List.pairwise_iff_getElem] at h1
        obtain ⟨q1, q2⟩ := List.getElem?_eq_some_iff.1 hy
        obtain ⟨q3, q4⟩ := List.getElem?_eq_some_iff.1 hx
        exact h1 j k q1 q3 (by omega) (by rw [q2, q4, hxy])
       rw [decide_eq_false this, Bool.and_false]
      ·refine ite_no (by simpa using hxy) (hrec2 (by omega) _ ⟨fun i hi => ?_, F3.tr F4⟩)
       rcases Nat.lt_succ_iff_lt_or_eq.1 hi with hi | rfl
       ·exact hno i hi
       ·rw [hy]
        intro e
        exact hxy (Option.some.inj e)
     ·have hjk : ¬ (j : Int) < (k : Int) := of_decide_eq_false hjk
      omega
    ·rcases Nat.lt_succ_iff_lt_or_eq.1 hi with hi | rfl
     ·exact hall i y hi hy
     ·rw [hx] at hy
      cases hy
      exact hok
    ·rcases Nat.lt_succ_iff_lt_or_eq.1 hj with hj | rfl
     ·exact hnd i j y hij hj hy
     ·intro e
      rw [hx] at e
      cases e
      exact hno i hij hy
   ·refine ite_yes (by simpa using hok) ⟨?_, F1.tr F2⟩
    unfold namedOk
    have : names.all isName = false := by
     rw [List.all_eq_false]
     exact ⟨x, List.mem_of_getElem? hx, hok⟩
    rw [this, Bool.and_false, Bool.false_and]
  ·have hge : ¬ (k : Int) < (l0.n : Int) := of_decide_eq_false hge
   rw [List.all_eq_true]
   intro x hx
   obtain ⟨i, hi⟩ := List.mem_iff_getElem?.1 hx
   have := (List.getElem?_eq_some_iff.1 hi).1
   exact hall i x (by omega) hi
  ·have hge : ¬ (k : Int) < (l0.n : Int) := of_decide_eq_false hge
   exact nodup_of fun i j x hij hx hj => by
    have := (List.getElem?_eq_some_iff.1 hj).1
    exact hnd i j x hij (by omega) hx hj
 rintro w1 ⟨h1, h2, F1⟩
 refine ⟨?_, F1⟩
 unfold namedOk
 rw [h1, decide_eq_true h2, Bool.and_true, Bool.and_true]
 congr 2
 rw [Bool.eq_iff_iff, beq_iff_eq, decide_eq_true_eq]
 omega
theorem len0 {α : Type} (l : List α) : (((l.length : Nat) : Int) == 0) = l.isEmpty := by cases l <;> simp <;> omega
theorem emp_bl (s : ByteArray) : (ByteArray.toList s == ByteArray.toList (ByteArray.mk #[])) = (bl s).isEmpty := by
 rw [eq_bl, bl_empty]
 cases bl s <;> rfl
set_option maxHeartbeats 2000000 in
theorem rfits_ok {s : Shape} {k : Int} {o n : ByteArray} {ns ps : Sl} (hv : ShV w k o n ns ps s) : AnsB 88 #[shArg k o n ns ps] w (fits s) := by
 obtain ⟨k', o', n', names, parts⟩ := s
 obtain ⟨rfl, rfl, rfl, ⟨hns, hnl, hpn, hpl, hos, hnz, hxl⟩, hps⟩ := hv.parts
 change RdS w ns (names.map bs) at hns
 change names.length < 4611686018427387904 at hnl
 change ps.n = parts.length at hpn
 change ∀ x ∈ names, x.length < 4611686018427387904 at hxl
 have hnn := hns.1
 rw [List.length_map] at hnn
 apply c88
 unfold t88 ivZ tvZ svZ ldIZ ldSZ ldLZ nw5Z caBZ jnBZ
 refine new_ok fun w1 m5 hm5 hs1 B1 F1 => ?_
 change Blk w1 m5 _ (shCells k o n ns ps) at B1
 have d0 : ∀ {K : Int → G} {R : Ending → World → Prop} {w' : World}, Fr noB w1 w' → K k R w' → ldG (.int .i64) ⟨m5, 0, none⟩ K R w' := fun F h => (B1.fr F (fun h => h)).ld (c := .int .i64) (o := 0) rfl h
 have d1 : ∀ {K : ByteArray → G} {R : Ending → World → Prop} {w' : World}, Fr noB w1 w' → K o R w' → ldG .str ⟨m5, 1, none⟩ K R w' := fun F h => (B1.fr F (fun h => h)).ld (c := .str) (o := 1) rfl h
 have d2 : ∀ {K : ByteArray → G} {R : Ending → World → Prop} {w' : World}, Fr noB w1 w' → K n R w' → ldG .str ⟨m5, 2, none⟩ K R w' := fun F h => (B1.fr F (fun h => h)).ld (c := .str) (o := 2) rfl h
 have d3 : ∀ {K : Sl → G} {R : Ending → World → Prop} {w' : World}, Fr noB w1 w' → K ns R w' → ldG .slice ⟨m5, 3, none⟩ K R w' := fun F h => (B1.fr F (fun h => h)).ldS (o := 3) rfl h
 have d4 : ∀ {K : Sl → G} {R : Ending → World → Prop} {w' : World}, Fr noB w1 w' → K ps R w' → ldG .slice ⟨m5, 4, none⟩ K R w' := fun F h => (B1.fr F (fun h => h)).ldS (o := 4) rfl h
 have e3 : (((ns.n : Nat) : Int) == 0) = names.isEmpty := by rw [hnn]; exact len0 names
 have e4 : (((ps.n : Nat) : Int) == 0) = parts.isEmpty := by rw [hpn]; exact len0 parts
 have R0 := Fr.refl noB w1
 generalize hT : fits (.mk k (bl o) (bl n) names parts) = T
 have hfit : T = (if k = 1 ∨ k = 2 ∨ k = 3 ∨ k = 4 then (bl o).isEmpty && (bl n).isEmpty && names.isEmpty && parts.isEmpty
  else if k = 5 then (bl o).isEmpty && (bl n).isEmpty && names.isEmpty && decide (parts.length = 1)
  else if k = 6 ∨ k = 7 then (bl o).isEmpty && (bl n).isEmpty && namedOk names parts.length
  else if k = 8 then (bl o).isEmpty && (bl n).isEmpty && names.isEmpty && decide (0 < parts.length)
  else if k = 9 then isUpper (bl n) && (((bl o).isEmpty && !plainT (bl n)) || isName (bl o)) && names.isEmpty && parts.isEmpty
  else if k = 10 then isUpper (bl n) && isName (bl o) && names.isEmpty && parts.isEmpty
  else false) := by rw [← hT]; rfl
 refine join1_ok (c := .bool) (fun (b : Bool) w' => b = decide (k = 9 ∨ k = 10) ∧ w' = w1) (fun kj hkj => d0 R0 (ite_ok (fun h => hkj _ _ ⟨?_, rfl⟩) fun h => d0 R0 (hkj _ _ ⟨?_, rfl⟩))) ?_
 ·have h : k = 9 := by simpa using h
  exact (decide_eq_true (.inl h)).symm
 ·have h : ¬ k = 9 := by simpa using h
  rw [Bool.eq_iff_iff, beq_iff_eq, decide_eq_true_eq]
  omega
 rintro b w2 ⟨rfl, hw⟩
 replace hw := hw.symm
 subst hw
 by_cases h9 : k = 9 ∨ k = 10
 ·rw [if_neg (by omega), if_neg (by omega), if_neg (by omega), if_neg (by omega)] at hfit
  refine ite_yes (decide_eq_true h9) ?_
  refine join1_ok (c := .bool) (fun (b : Bool) w' => b = plainT (bl n) ∧ w' = w1) (fun kj hkj => ?_) ?_
  ·have hp : plainT (bl n) = ((bl n) == [73, 110, 116] || (bl n) == [66, 111, 111, 108] || (bl n) == [84, 101, 120, 116] || (bl n) == [65, 110, 121]) := rfl
   refine d2 R0 ?_
   rw [eq_bl, show bl (ByteArray.mk #[(73 : UInt8), (110 : UInt8), (116 : UInt8)]) = [73, 110, 116] from rfl]
   refine ite_ok (fun h => hkj _ _ ⟨by rw [hp, h]; rfl, rfl⟩) fun h1 => d2 R0 ?_
   rw [eq_bl, show bl (ByteArray.mk #[(66 : UInt8), (111 : UInt8), (111 : UInt8), (108 : UInt8)]) = [66, 111, 111, 108] from rfl]
   refine ite_ok (fun h => hkj _ _ ⟨by rw [hp, h1, h]; rfl, rfl⟩) fun h2 => d2 R0 ?_
   rw [eq_bl, show bl (ByteArray.mk #[(84 : UInt8), (101 : UInt8), (120 : UInt8), (116 : UInt8)]) = [84, 101, 120, 116] from rfl]
   refine ite_ok (fun h => hkj _ _ ⟨by rw [hp, h1, h2, h]; rfl, rfl⟩) fun h3 => d2 R0 (hkj _ _ ⟨?_, rfl⟩)
   rw [eq_bl, show bl (ByteArray.mk #[(65 : UInt8), (110 : UInt8), (121 : UInt8)]) = [65, 110, 121] from rfl, hp, h1, h2, h3]
   rfl
  rintro b w2 ⟨rfl, hw⟩
  replace hw := hw.symm
  subst hw
  refine join1_ok (c := .bool) (fun (b : Bool) w' => b = (isName (bl o) || ((bl o).isEmpty && (k == 9 && !plainT (bl n)))) ∧ Fr noB w1 w') (fun kj hkj => d1 R0 (callB_ok (rName_ok o hos) fun w3 F3 => ite_ok (fun h => hkj _ _ ⟨by rw [h]; rfl, F3⟩) fun h => d1 F3 ?_)) ?_
  ·rw [emp_bl]
   refine ite_ok (fun h1 => d0 F3 (ite_ok (fun h2 => hkj _ _ ⟨by rw [h, h1, h2]; simp, F3⟩) fun h2 => hkj _ _ ⟨by rw [h, h1, h2]; rfl, F3⟩)) fun h1 => hkj _ _ ⟨by rw [h, h1]; rfl, F3⟩
  rintro b w3 ⟨rfl, F3⟩
  refine join1_ok (c := .bool) (fun (b : Bool) w' => b = T ∧ Fr noB w w') (fun kj hkj => ?_) (fun b w' h => done_b h)
  have hT2 : T = (isUpper (bl n) && ((isName (bl o) || ((bl o).isEmpty && (k == 9 && !plainT (bl n)))) && (names.isEmpty && parts.isEmpty))) := by
   rw [hfit]
   rcases h9 with rfl | rfl
   ·rw [if_pos rfl]
    simp only [beq_self_eq_true, Bool.true_and, Bool.and_assoc, Bool.or_comm]
   ·rw [if_neg (by omega), if_pos rfl]
    simp [Bool.and_assoc]
  refine d2 F3 (callB_ok (rUpper_ok n hnz) fun w4 F4 => ?_)
  have F14 := F1.tr (F3.tr F4)
  refine ite_ok (fun h1 => ite_ok (fun h2 => d3 (F3.tr F4) ?_) fun h2 => hkj _ _ ⟨by rw [hT2, h1, h2]; rfl, F14⟩) fun h1 => hkj _ _ ⟨by rw [hT2, h1]; rfl, F14⟩
  rw [e3]
  refine ite_ok (fun h3 => d4 (F3.tr F4) (hkj _ _ ⟨?_, F14⟩)) fun h3 => hkj _ _ ⟨by rw [hT2, h1, h2, h3]; rfl, F14⟩
  rw [e4, hT2, h1, h2, h3]
  rfl
 rw [if_neg (c := k = 9) (by omega), if_neg (c := k = 10) (by omega)] at hfit
 refine ite_no (decide_eq_false h9) ?_
 refine join1_ok (c := .bool) (fun (b : Bool) w' => b = !((bl o).isEmpty && (bl n).isEmpty) ∧ w' = w1) (fun kj hkj => d1 R0 ?_) ?_
 ·rw [emp_bl]
  refine ite_ok (fun h => hkj _ _ ⟨?_, rfl⟩) fun h => d2 R0 (hkj _ _ ⟨?_, rfl⟩)
  ·have h : (bl o).isEmpty = false := by simpa using h
   rw [h]; rfl
  ·have h : (bl o).isEmpty = true := by simpa using h
   rw [emp_bl, h]; rfl
 rintro b w2 ⟨rfl, hw⟩
 replace hw := hw.symm
 subst hw
 by_cases hbare : ((bl o).isEmpty && (bl n).isEmpty) = true
 rotate_left
 ·have hbare : ((bl o).isEmpty && (bl n).isEmpty) = false := by simpa using hbare
  refine ite_yes (by rw [hbare]; rfl) ⟨?_, F1⟩
  rw [hfit, hbare]
  simp
 refine ite_no (by rw [hbare]; rfl) ?_
 rw [hbare] at hfit
 simp only [Bool.true_and] at hfit
 refine join1_ok (c := .bool) (fun (b : Bool) w' => b = decide (k = 6 ∨ k = 7) ∧ w' = w1) (fun kj hkj => d0 R0 (ite_ok (fun h => hkj _ _ ⟨?_, rfl⟩) fun h => d0 R0 (hkj _ _ ⟨?_, rfl⟩))) ?_
 ·have h : k = 6 := by simpa using h
  exact (decide_eq_true (.inl h)).symm
 ·have h : ¬ k = 6 := by simpa using h
  rw [Bool.eq_iff_iff, beq_iff_eq, decide_eq_true_eq]
  omega
 rintro b w2 ⟨rfl, hw⟩
 replace hw := hw.symm
 subst hw
 by_cases h67 : k = 6 ∨ k = 7
 ·rw [if_neg (by omega), if_neg (by omega), if_pos h67] at hfit
  refine ite_yes (decide_eq_true h67) (d3 R0 (d4 R0 ?_))
  rw [hpn]
  exact callB_ok (rnames_ok (hns.fr F1) hnl hxl parts.length) fun w3 F3 => ⟨by rw [hfit], F1.tr F3⟩
 rw [if_neg (c := k = 6 ∨ k = 7) h67] at hfit
 refine ite_no (decide_eq_false h67) (d3 R0 (ite_ok (fun h => ⟨?_, F1⟩) fun h => ?_))
 ·have h : ((ns.n : Nat) : Int) > 0 := of_decide_eq_true h
  have : names.isEmpty = false := by
   cases names with
   | nil => simp at hnn; omega
   | cons _ _ => rfl
  rw [hfit, this]
  simp
 have h : ¬ ((ns.n : Nat) : Int) > 0 := of_decide_eq_false h
 have hne : names.isEmpty = true := by
  cases names with
  | nil => rfl
  | cons _ _ => simp at hnn; omega
 rw [hne] at hfit
 simp only [Bool.true_and] at hfit
 refine d0 R0 (ite_ok (fun h8 => d4 R0 ⟨?_, F1⟩) fun h8 => d0 R0 (ite_ok (fun h5 => d4 R0 ⟨?_, F1⟩) fun h5 => ?_))
 ·have h8 : k = 8 := by simpa using h8
  rw [hfit, if_neg (by omega), if_neg (by omega), if_pos h8]
  congr 2
  exact decide_eq_decide.2 (by omega)
 ·have h5 : k = 5 := by simpa using h5
  rw [hfit, if_neg (by omega), if_pos h5]
  congr 2
  rw [Bool.eq_iff_iff, beq_iff_eq, decide_eq_true_eq]
  omega
 have h8 : ¬ k = 8 := by simpa using h8
 have h5 : ¬ k = 5 := by simpa using h5
 rw [if_neg (c := k = 5) h5, if_neg (c := k = 8) h8] at hfit
 refine join1_ok (c := .bool) (fun (b : Bool) w' => b = T ∧ Fr noB w w') (fun kj hkj => d0 R0 (ite_ok (fun h1 => d0 R0 (ite_ok (fun h2 => d4 R0 (hkj _ _ ⟨?_, F1⟩)) fun h2 => hkj _ _ ⟨?_, F1⟩)) fun h1 => hkj _ _ ⟨?_, F1⟩)) (fun b w' h => done_b h)
 ·have h1 : k ≥ 1 := of_decide_eq_true h1
  have h2 : k ≤ 4 := of_decide_eq_true h2
  rw [e4, hfit, if_pos (by omega)]
 ·have h1 : k ≥ 1 := of_decide_eq_true h1
  have h2 : ¬ k ≤ 4 := of_decide_eq_false h2
  rw [hfit, if_neg (by omega)]
 ·have h1 : ¬ k ≥ 1 := of_decide_eq_false h1
  rw [hfit, if_neg (by omega)]
theorem rright_ok : ∀ (d : Nat) (s : Shape), size s ≤ d → ∀ {w : World} {k : Int} {o n : ByteArray} {ns ps : Sl}, ShV w k o n ns ps s → AnsB 60 #[shArg k o n ns ps] w (allFit s)
 | 0, s, h, _, _, _, _, _, _, _ => by have := size_pos s; omega
 | d + 1, .mk k' o' n' names parts, hd, w, k, o, n, ns, ps, hv => by
  rw [size_mk] at hd
  obtain ⟨_, _, _, ⟨_, _, hpn, hpl, _⟩, hps⟩ := hv.parts
  change ps.n = parts.length at hpn
  change parts.length < 4611686018427387904 at hpl
  change ShL w ps.a 0 parts at hps
  apply c60
  unfold t60 wrZ shZ ldLZ ld5mZ ld5xZ nw5Z caBZ jn0Z lpIZ ixZ
  refine new_ok fun w1 m5 hm5 hs1 B1 F1 => ?_
  change Blk w1 m5 _ (shCells k o n ns ps) at B1
  refine B1.ld (c := .int .i64) (x := k) (o := 0) rfl (B1.ld (c := .str) (x := o) (o := 1) rfl (B1.ld (c := .str) (x := n) (o := 2) rfl (B1.ldS (o := 3) rfl (B1.ldS (o := 4) rfl ?_))))
  refine callB_ok (rfits_ok (hv.fr F1)) fun w2 F2 => ?_
  have hall : allFit (.mk k' o' n' names parts) = (fits (.mk k' o' n' names parts) && allFits parts) := by rw [allFit]
  rw [hall]
  by_cases hf : fits (.mk k' o' n' names parts) = true
  rotate_left
  ·have hf : fits (.mk k' o' n' names parts) = false := by simpa using hf
   exact ite_yes (by rw [hf]; rfl) ⟨by rw [hf]; rfl, F1.tr F2⟩
  rw [hf, Bool.true_and]
  refine ite_no rfl ?_
  have F12 := F1.tr F2
  refine join0_ok (fun w' => allFits parts = true ∧ Fr noB w w') (fun kend hkend => ?_) (fun w' ⟨h, F⟩ => ⟨by rw [h], F⟩)
  refine count_ok parts.length hpl (fun i w' => (∀ j s, j < i → parts[j]? = some s → allFit s = true) ∧ Fr noB w2 w') (fun rec i w3 hi hI hrec => ?_) ⟨fun j s h => by omega, Fr.refl _ _⟩
  obtain ⟨hdone, F3⟩ := hI
  have B3 := B1.fr (F2.tr F3) (fun h => h)
  refine B3.ldS (o := 4) rfl (ite_ok (fun hlt => ?_) fun hge => hkend _ ⟨allFits_of fun s hs => ?_, F12.tr F3⟩)
  ·have hlt : (i : Int) < (ps.n : Int) := of_decide_eq_true hlt
   obtain ⟨s, hs⟩ : ∃ s, parts[i]? = some s := ⟨_, List.getElem?_eq_getElem (by omega)⟩
   have hsz := size_mem (List.mem_of_getElem? hs)
   refine join_in (vs := []) (B3.ldS (o := 4) rfl ?_)
   refine part_ld (hps.fr (F12.tr F3)) hs hpn fun k1 o1 n1 ns1 ps1 hv1 => ?_
   refine callB_ok (rright_ok d s (by omega) hv1) fun w4 F4 => ?_
   by_cases hok : allFit s = true
   ·refine ite_no (by rw [hok]; rfl) (hrec (by omega) _ ⟨fun j x hj hx => ?_, F3.tr F4⟩)
    rcases Nat.lt_succ_iff_lt_or_eq.1 hj with hj | rfl
    ·exact hdone j x hj hx
    ·rw [hs] at hx
     cases hx
     exact hok
   ·refine ite_yes (by simpa using hok) ⟨?_, (F12.tr F3).tr F4⟩
    have : allFits parts = false := by
     rw [Bool.eq_false_iff]
     intro h
     exact hok (allFits_mem h (List.mem_of_getElem? hs))
    rw [this]
  ·have hge : ¬ (i : Int) < (ps.n : Int) := of_decide_eq_false hge
   obtain ⟨j, hj⟩ := List.mem_iff_getElem?.1 hs
   have := (List.getElem?_eq_some_iff.1 hj).1
   exact hdone j s (by omega) hj
theorem rCheckS_ok {s : Shape} {k : Int} {o n : ByteArray} {ns ps : Sl} (hv : ShV w k o n ns ps s) : Calls Tryz.prog 35 #[shArg k o n ns ps] w fun e w' => e = .returned (.int .i64 ((check s : Nat) : Int)) ∧ Fr noB w w' := by
 apply c35
 unfold t35 ivZ shZ ld5mZ nw5Z caBZ caIZ
 refine new_ok fun w1 m5 hm5 hs1 B1 F1 => ?_
 change Blk w1 m5 _ (shCells k o n ns ps) at B1
 refine B1.ld (c := .int .i64) (x := k) (o := 0) rfl (B1.ld (c := .str) (x := o) (o := 1) rfl (B1.ld (c := .str) (x := n) (o := 2) rfl (B1.ldS (o := 3) rfl (B1.ldS (o := 4) rfl ?_))))
 refine callI_ok (rSize_ok (size s) s (Nat.le_refl _) 400 (by omega) (hv.fr F1)) fun w2 F2 => ?_
 have hsp := refSize_spec s 400
 have F12 := F1.tr F2
 unfold check
 refine ite_ok (fun h => ⟨?_, F12⟩) fun h => ?_
 ·have h : ((refSize s 400 : Nat) : Int) > 400 := of_decide_eq_true h
  rw [if_pos (by rcases Nat.lt_or_ge 400 (size s) with h1 | h1; exact h1; have := hsp.1 h1; omega)]
  rfl
 have h : ¬ ((refSize s 400 : Nat) : Int) > 400 := of_decide_eq_false h
 have hsz : ¬ 400 < size s := fun h1 => by have := hsp.2 h1; omega
 rw [if_neg hsz]
 have B2 := B1.fr F2 (fun h => h)
 refine B2.ld (c := .int .i64) (x := k) (o := 0) rfl (B2.ld (c := .str) (x := o) (o := 1) rfl (B2.ld (c := .str) (x := n) (o := 2) rfl (B2.ldS (o := 3) rfl (B2.ldS (o := 4) rfl ?_))))
 refine callI_ok (rDeep_ok (size s) s (Nat.le_refl _) (by omega) (hv.fr F12)) fun w3 F3 => ?_
 refine ite_ok (fun h => ⟨?_, F12.tr F3⟩) fun h => ?_
 ·have h : ((deep s : Nat) : Int) > 40 := of_decide_eq_true h
  rw [if_pos (by omega)]
  rfl
 have h : ¬ ((deep s : Nat) : Int) > 40 := of_decide_eq_false h
 rw [if_neg (by omega)]
 have B3 := B2.fr F3 (fun h => h)
 refine B3.ld (c := .int .i64) (x := k) (o := 0) rfl (B3.ld (c := .str) (x := o) (o := 1) rfl (B3.ld (c := .str) (x := n) (o := 2) rfl (B3.ldS (o := 3) rfl (B3.ldS (o := 4) rfl ?_))))
 refine callB_ok (rright_ok (size s) s (Nat.le_refl _) (hv.fr (F12.tr F3))) fun w4 F4 => ?_
 cases hf : allFit s with
 | true => exact ite_no rfl ⟨rfl, (F12.tr F3).tr F4⟩
 | false => exact ite_yes rfl ⟨rfl, (F12.tr F3).tr F4⟩
end
end Go.Proofs.YtngfnokbdcjoeaaGreatDoor
end
section
namespace Go.Shp
open Go.Lex
def vk (k z : Int) : Int := k * 18446744073709551616 + z
def kOf (q : Int) : Int := (q + 9223372036854775808) / 18446744073709551616
def zOf (q : Int) : Int := q - kOf q * 18446744073709551616
theorem kOf_vk {k z : Int} (h1 : -9223372036854775808 ≤ z) (h2 : z ≤ 9223372036854775807) : kOf (vk k z) = k := by
 unfold kOf vk
 omega
theorem zOf_vk {k z : Int} (h1 : -9223372036854775808 ≤ z) (h2 : z ≤ 9223372036854775807) : zOf (vk k z) = z := by
 unfold zOf
 rw [kOf_vk h1 h2]
 unfold vk
 omega
theorem vk_inj {k z k' z' : Int} (h1 : -9223372036854775808 ≤ z) (h2 : z ≤ 9223372036854775807) (h3 : -9223372036854775808 ≤ z') (h4 : z' ≤ 9223372036854775807) : vk k z = vk k' z' ↔ k = k' ∧ z = z' := by
 unfold vk
 omega
def vform : Shape → Bool
 | .mk q o t ns ps =>
  if kOf q = 1 then o.isEmpty && t.isEmpty && ns.isEmpty && ps.isEmpty
  else if kOf q = 2 then o.isEmpty && decide (zOf q = 0) && ns.isEmpty && ps.isEmpty
  else if kOf q = 3 then o.isEmpty && t.isEmpty && ns.isEmpty && ps.isEmpty && decide (zOf q = 0 ∨ zOf q = 1)
  else if kOf q = 4 then o.isEmpty && t.isEmpty && ns.isEmpty && decide (zOf q = 0)
  else if kOf q = 5 then o.isEmpty && t.isEmpty && decide (zOf q = 0) && namedOk ns ps.length
  else if kOf q = 6 then o.isEmpty && decide (zOf q = 0) && ns.isEmpty && isName t && decide (ps.length = 1)
  else if kOf q = 7 then isName o && isUpper t && decide (zOf q = 0) && ns.isEmpty && decide (ps.length = 1)
  else if kOf q = 8 then o.isEmpty && t.isEmpty && ns.isEmpty && ps.isEmpty && decide (0 ≤ zOf q ∧ zOf q ≤ 1000)
  else false
mutual
def formed : Shape → Bool
 | .mk q o t ns ps => vform (.mk q o t ns ps) && formeds ps
def formeds : List Shape → Bool
 | [] => true
 | s :: r => formed s && formeds r
end
def vcheck (s : Shape) : Nat := if 2000 < size s then 3 else if 40 < deep s then 91 else if formed s then 0 else 290
def vsame (a b : Shape) : Bool := vcheck a == 0 && vcheck b == 0 && eqS (sortS a) (sortS b)
def vlist (g : Shape → Shape → Bool) (sps ps : List Shape) : Bool := match sps with
 | p :: _ => ps.all (fun x => g x p)
 | [] => ps.isEmpty
def vcase (g : Shape → Shape → Bool) (sns : List B) (sps : List Shape) (t : B) (ps : List Shape) : Bool := match find sns sps t, ps with
 | some p, x :: _ => g x p
 | _, _ => false
def vfitsF : Nat → Shape → Shape → Bool
 | 0, _, _ => false
 | f + 1, .mk q o t ns ps, .mk k so sn sns sps =>
  if k = 4 then true
  else if kOf q = 1 then decide (k = 1)
  else if kOf q = 2 then decide (k = 3)
  else if kOf q = 3 then decide (k = 2)
  else if kOf q = 7 then decide (k = 10) && so == o && sn == t
  else if kOf q = 8 then decide (k = 8) && decide ((sps.length : Int) = zOf q + 1)
  else if kOf q = 4 then decide (k = 5) && vlist (vfitsF f) sps ps
  else if kOf q = 6 then decide (k = 7) && vcase (vfitsF f) sns sps t ps
  else decide (k = 6) && withinF (fun p x => vfitsF f x p) sns sps ns ps
def vfits (v s : Shape) : Bool := vfitsF (deep v) v s
def isFits (v s : Shape) : Bool := vcheck v == 0 && check s == 0 && vfits v s
theorem formeds_mem : ∀ {l : List Shape} {s : Shape}, formeds l = true → s ∈ l → formed s = true
 | x :: r, s, h, hs => by
  unfold formeds at h
  rw [Bool.and_eq_true] at h
  rcases List.mem_cons.1 hs with rfl | hs
  ·exact h.1
  ·exact formeds_mem h.2 hs
theorem formeds_of {l : List Shape} (h : ∀ s ∈ l, formed s = true) : formeds l = true := by
 induction l with
 | nil => rw [formeds]
 | cons s r ih =>
  rw [formeds, h s List.mem_cons_self, ih fun x hx => h x (List.mem_cons_of_mem _ hx)]
  rfl
theorem formed_parts {q : Int} {o t : B} {ns : List B} {ps : List Shape} (h : formed (.mk q o t ns ps) = true) : vform (.mk q o t ns ps) = true ∧ ∀ s ∈ ps, formed s = true := by
 unfold formed at h
 rw [Bool.and_eq_true] at h
 exact ⟨h.1, fun s hs => formeds_mem h.2 hs⟩
theorem vcheck_ok {s : Shape} : vcheck s = 0 ↔ size s ≤ 2000 ∧ deep s ≤ 40 ∧ formed s = true := by
 unfold vcheck
 by_cases h1 : 2000 < size s
 ·rw [if_pos h1]; simp; omega
 rw [if_neg h1]
 by_cases h2 : 40 < deep s
 ·rw [if_pos h2]; simp; omega
 rw [if_neg h2]
 cases h3 : formed s with
 | true => simp; omega
 | false => simp
theorem vform_names {q : Int} {o t : B} {ns : List B} {ps : List Shape} (h : vform (.mk q o t ns ps) = true) : (kOf q ≠ 5 → ns = []) ∧ (kOf q = 5 → ns.length = ps.length ∧ ns.Nodup) := by
 unfold vform at h
 simp only [] at h
 constructor
 ·intro h5
  rw [if_neg (c := kOf q = 5) h5] at h
  repeat' split at h
  all_goals try simp only [Bool.and_eq_true, List.isEmpty_iff] at h
  all_goals first | exact h.2 | exact h.1.2 | exact h.1.1.2 | exact h.1.1.1.2 | exact absurd h (by simp)
 ·intro h5
  rw [if_neg (by omega), if_neg (by omega), if_neg (by omega), if_neg (by omega), if_pos h5] at h
  unfold namedOk at h
  simp only [Bool.and_eq_true, decide_eq_true_eq] at h
  exact ⟨h.2.1.1, h.2.2⟩
theorem vform_len {q : Int} {o t : B} {ns : List B} {ps : List Shape} (h : vform (.mk q o t ns ps) = true) (hn : ns ≠ []) : ns.length = ps.length ∧ ns.Nodup := by
 by_cases h5 : kOf q = 5
 ·exact (vform_names h).2 h5
 ·exact absurd ((vform_names h).1 h5) hn
end Go.Shp
end
section
namespace Go.Lift
open Go.Shp
def okN (z : Int) : Prop := -9223372036854775808 ≤ z ∧ z ≤ 9223372036854775807
mutual
def VaV (w : World) (k z : Int) (o n : ByteArray) (ns ps : Sl) : Shape → Prop
 | .mk q o' n' names parts => q = vk k z ∧ bl o = o' ∧ bl n = n' ∧ (okN z ∧ RdS w ns (names.map bs) ∧ names.length * 16 ≤ 140737488351232 ∧ ps.n = parts.length ∧ parts.length < 4611686018427387904 ∧ o.size < 4611686018427387904 ∧ n.size < 4611686018427387904 ∧ ∀ x ∈ names, x.length < 4611686018427387904) ∧ VaL w ps.a 0 parts
def VaL (w : World) (a : Option Addr) (i : Nat) : List Shape → Prop
 | [] => True
 | s :: r => (∃ (g off : Nat) (k z : Int) (o n : ByteArray) (ns ps : Sl), a = some ⟨g, off, none⟩ ∧ w.cell? ⟨g, off + i * 6, none⟩ = some (.int .i64 k) ∧ w.cell? ⟨g, off + i * 6 + 1, none⟩ = some (.int .i64 z) ∧ w.cell? ⟨g, off + i * 6 + 2, none⟩ = some (.string o) ∧ w.cell? ⟨g, off + i * 6 + 3, none⟩ = some (.string n) ∧
   w.cell? ⟨g, off + i * 6 + 4, none⟩ = some (.slice ns.a ns.n ns.c) ∧ w.cell? ⟨g, off + i * 6 + 5, none⟩ = some (.slice ps.a ps.n ps.c) ∧ VaV w k z o n ns ps s) ∧ VaL w a (i + 1) r
end
mutual
theorem VaV.fr {w w' : World} (F : Fr noB w w') : ∀ {s : Shape} {k z : Int} {o n : ByteArray} {ns ps : Sl}, VaV w k z o n ns ps s → VaV w' k z o n ns ps s
 | .mk _ _ _ _ _, _, _, _, _, _, _, h => by
  unfold VaV at h ⊢
  exact ⟨h.1, h.2.1, h.2.2.1, ⟨h.2.2.2.1.1, h.2.2.2.1.2.1.fr F, h.2.2.2.1.2.2⟩, VaL.fr F h.2.2.2.2⟩
theorem VaL.fr {w w' : World} (F : Fr noB w w') : ∀ {l : List Shape} {a : Option Addr} {i : Nat}, VaL w a i l → VaL w' a i l
 | [], _, _, _ => by unfold VaL; trivial
 | s :: r, _, _, h => by
  unfold VaL at h ⊢
  obtain ⟨⟨g, off, k, z, o, n, ns, ps, h0, h1, h2, h3, h4, h5, h6, h7⟩, hr⟩ := h
  exact ⟨⟨g, off, k, z, o, n, ns, ps, h0, F.cell h1 (fun h => h), F.cell h2 (fun h => h), F.cell h3 (fun h => h), F.cell h4 (fun h => h), F.cell h5 (fun h => h), F.cell h6 (fun h => h), VaV.fr F h7⟩, VaL.fr F hr⟩
end
theorem VaL.at {w : World} {a : Option Addr} : ∀ {l : List Shape} {i j : Nat} {s : Shape}, VaL w a i l → l[j]? = some s → ∃ (g off : Nat) (k z : Int) (o n : ByteArray) (ns ps : Sl), a = some ⟨g, off, none⟩ ∧ w.cell? ⟨g, off + (i + j) * 6, none⟩ = some (.int .i64 k) ∧ w.cell? ⟨g, off + (i + j) * 6 + 1, none⟩ = some (.int .i64 z) ∧ w.cell? ⟨g, off + (i + j) * 6 + 2, none⟩ = some (.string o) ∧ w.cell? ⟨g, off + (i + j) * 6 + 3, none⟩ = some (.string n) ∧
   w.cell? ⟨g, off + (i + j) * 6 + 4, none⟩ = some (.slice ns.a ns.n ns.c) ∧ w.cell? ⟨g, off + (i + j) * 6 + 5, none⟩ = some (.slice ps.a ps.n ps.c) ∧ VaV w k z o n ns ps s
 | [], _, _, _, _, hj => by simp at hj
 | x :: r, i, 0, s, h, hj => by
  unfold VaL at h
  simp only [List.getElem?_cons_zero, Option.some.injEq] at hj
  subst hj
  exact h.1
 | x :: r, i, j + 1, s, h, hj => by
  unfold VaL at h
  have := VaL.at h.2 (by simpa using hj)
  rw [show i + (j + 1) = i + 1 + j by omega]
  exact this
def vaCells (k z : Int) (o n : ByteArray) (ns ps : Sl) : List Value := [.int .i64 k, .int .i64 z, .string o, .string n, .slice ns.a ns.n ns.c, .slice ps.a ps.n ps.c]
@[reducible] def vaArg (k z : Int) (o n : ByteArray) (ns ps : Sl) : Value := .agg #[.int .i64 k, .int .i64 z, .string o, .string n, .slice ns.a ns.n ns.c, .slice ps.a ps.n ps.c]
section
variable {R : Ending → World → Prop} {w : World}
theorem vpart_ld {l : List Shape} {a : Option Addr} {len i : Nat} {s : Shape} {K : Int → Int → ByteArray → ByteArray → Sl → Sl → G} (h : VaL w a 0 l) (hs : l[i]? = some s) (hl : len = l.length)
  (hk : ∀ k z o n ns ps, VaV w k z o n ns ps s → K k z o n ns ps R w) :
  idxG a len (i : Int) 6 (fun (x : Addr) => ldG (.int .i64) (x.add 0) (fun (k : Int) => ldG (.int .i64) (x.add 1) (fun (z : Int) => ldG .str (x.add 2) (fun (o : ByteArray) => ldG .str (x.add 3) (fun (n : ByteArray) => ldG .slice (x.add 4) (fun (ns : Sl) => ldG .slice (x.add 5) (fun (ps : Sl) => K k z o n ns ps))))))) R w := by
 obtain ⟨g, off, k, z, o, n, ns, ps, rfl, c0, c1, c2, c3, c4, c5, hv⟩ := h.at hs
 have hi := (List.getElem?_eq_some_iff.1 hs).1
 rw [Nat.zero_add] at c0 c1 c2 c3 c4 c5
 refine idxB_ok (n := len) (i := i) (by omega) ?_
 simp only [Addr.add_lit, Nat.add_zero]
 exact ld_ok (c := .int .i64) c0 (ld_ok (c := .int .i64) c1 (ld_ok (c := .str) c2 (ld_ok (c := .str) c3 (ld_ok (c := .slice) (x := ns) c4 (ld_ok (c := .slice) (x := ps) c5 (hk k z o n ns ps hv))))))
theorem VaV.parts {k z : Int} {o n : ByteArray} {ns ps : Sl} {s : Shape} (h : VaV w k z o n ns ps s) : s.kind = vk k z ∧ bl o = s.of ∧ bl n = s.name ∧ (okN z ∧ RdS w ns (s.names.map bs) ∧ s.names.length * 16 ≤ 140737488351232 ∧ ps.n = s.parts.length ∧ s.parts.length < 4611686018427387904 ∧ o.size < 4611686018427387904 ∧ n.size < 4611686018427387904 ∧ ∀ x ∈ s.names, x.length < 4611686018427387904) ∧ VaL w ps.a 0 s.parts := by
 cases s
 unfold VaV at h
 exact h
end
end Go.Lift
end
