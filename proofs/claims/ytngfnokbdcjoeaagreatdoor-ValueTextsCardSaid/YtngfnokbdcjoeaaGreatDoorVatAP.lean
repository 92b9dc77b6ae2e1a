/- The law behind: one part of its proof (joined by program out of my own texts). No condition. -/
import Derived.Test.YtngfnokbdcjoeaaGreatDoorVatAO
import Derived.Tactics
import Derived.Tactics2
import Derived.Defers
import Derived.Recover
import Derived.Laws.Pointers
import Derived.Test.YtngfnokbdcjoeaaGreatDoorChecked
section
namespace Go.Shp
theorem sizes_take {l : List Shape} {i : Nat} {s : Shape} (h : l[i]? = some s) : sizes (l.take (i + 1)) = sizes (l.take i) + size s := by
 induction l generalizing i with
 | nil => simp at h
 | cons x r ih =>
  cases i with
  | zero =>
   simp only [List.getElem?_cons_zero, Option.some.injEq] at h
   subst h
   simp only [List.take_succ_cons, List.take_zero, sizes]
   omega
  | succ i =>
   rw [List.take_succ_cons, List.take_succ_cons, sizes, sizes, ih (by simpa using h), Nat.add_assoc]
theorem sizes_take_le (l : List Shape) (i : Nat) : sizes (l.take i) ≤ sizes l := by
 induction l generalizing i with
 | nil => simp
 | cons x r ih =>
  cases i with
  | zero => rw [List.take_zero, sizes]; omega
  | succ i => have := ih i; rw [List.take_succ_cons, sizes, sizes]; omega
end Go.Shp
namespace Go.Lift
theorem Fr.ob {a b : World} {m : Nat} (h : Fr noB a b) : Fr (oneB m) a b := h.mono fun _ _ h => h.elim
end Go.Lift
namespace Go.Proofs.YtngfnokbdcjoeaaGreatDoor
open Go.Lift Go.Lex Go.Shp
def fullC : List PanicEntry := [{ v := .iface 91 (.agg #[]), recovered := false }]
def MetP (b : Nat) (T : TypeId) (c m : Nat) (v : Value) (w : World) (e : Ending) (w' : World) : Prop :=
 Fr (oneB b) w w' ∧ ((c + m ≤ 400 ∧ e = .returned v ∧ Blk w' b T [.int .i64 ((c + m : Nat) : Int)]) ∨ (400 < c + m ∧ e = .panicked fullC ∧ ∃ x : Int, Blk w' b T [.int .i64 x]))
theorem smeet_ok {w : World} {b : Nat} {T : TypeId} {c : Nat} (B : Blk w b T [.int .i64 (c : Int)]) (hc : c ≤ 400) : Calls Tryz.prog 85 #[.pointer (some ⟨b, 0, none⟩)] w (MetP b T c 1 (.tuple #[]) w) := by
 apply c85
 unfold t85 wrZ ivZ ldIZ jn0Z
 refine B.ld (c := .int .i64) (x := (c : Int)) (o := 0) rfl (B.st rfl (by simp) fun w1 B1 F1 => ?_)
 have ew : IntKind.wrap .i64 ((c : Int) + 1) = ((c + 1 : Nat) : Int) := by rw [wrap_ok (by omega) (by omega)]; omega
 rw [ew] at B1
 refine B1.ld (c := .int .i64) (x := ((c + 1 : Nat) : Int)) (o := 0) rfl (join_in (vs := []) (ite_ok (fun h => ?_) fun h => ?_))
 ·have h : ((c + 1 : Nat) : Int) > 400 := of_decide_eq_true h
  exact ⟨⟨_, _, rfl⟩, F1, .inr ⟨by omega, rfl, _, B1⟩⟩
 ·have h : ¬ ((c + 1 : Nat) : Int) > 400 := of_decide_eq_false h
  exact ⟨F1, .inl ⟨by omega, rfl, B1⟩⟩
theorem resMeet : (resOf Tryz.prog 85).isSome = true := by kernel_rfl
theorem swalk_ok : ∀ (d : Nat) (s : Shape), size s ≤ d → ∀ {w0 w : World} {b : Nat} {T : TypeId} {c lv : Nat} {k : Int} {o n : ByteArray} {ns ps : Sl}, ShV w0 k o n ns ps s → Fr noB w0 w → w0.heap.size ≤ b → Blk w b T [.int .i64 (c : Int)] → c ≤ 400 → lv ≤ c + 1 →
  Calls Tryz.prog 84 #[shArg k o n ns ps, .int .i64 (lv : Int), .func (.func 85) #[] #[.pointer (some ⟨b, 0, none⟩)]] w (MetP b T c (size s) (.int .i64 ((lv + deep s - 1 : Nat) : Int)) w)
 | 0, s, h, _, _, _, _, _, _, _, _, _, _, _, _, _, _, _, _, _ => by have := size_pos s; omega
 | d + 1, .mk k' o' n' names parts, hd, w0, w, b, T, c, lv, k, o, n, ns, ps, hv, F0, hb, B, hc, hlv => by
  rw [size_mk] at hd
  obtain ⟨_, _, _, ⟨_, _, hpn, hpl, _⟩, hps⟩ := hv.parts
  change ps.n = parts.length at hpn
  change parts.length < _ at hpl
  change ShL w0 ps.a 0 parts at hps
  have hbl := B.lt
  apply c84
  unfold t84 wrZ ivZ shZ ldLZ ld5mZ ld5xZ st5Z nw5Z nz5Z caIZ jnIZ lpIIZ ixZ
  refine new_ok fun w1 m7 hm7 hs1 C1 F1 => ?_
  change Blk w1 m7 _ (shCells k o n ns ps) at C1
  have B1 := B.fr F1 (fun h => h)
  refine ⟨_, #[], _, rfl, resMeet, ?_⟩
  refine (smeet_ok B1 hc).mono ?_
  rintro e w2 ⟨F2, ⟨hle, rfl, B2⟩ | ⟨hgt, rfl, x, B2⟩⟩
  rotate_left
  ·exact .inr ⟨_, rfl, st_fr F1.ob F2, .inr ⟨by rw [size_mk]; omega, rfl, x, B2⟩⟩
  refine .inl ⟨(), rfl, ?_⟩
  have G2 := st_fr F1.ob F2
  refine (C1.fr F2 (show ¬ m7 = b by omega)).ldS (o := 4) rfl ?_
  refine join1_ok (c := .int .i64) (fun (y : Int) w' => y = ((lv + deeps parts : Nat) : Int) ∧ c + 1 + sizes parts ≤ 400 ∧ Fr (oneB b) w w' ∧ Blk w' b T [.int .i64 ((c + 1 + sizes parts : Nat) : Int)]) (fun kend hkend => ?_) ?_
  rotate_left
  ·rintro y w' ⟨rfl, hle', G, B'⟩
   refine ⟨G, .inl ⟨by rw [size_mk]; omega, ?_, ?_⟩⟩
   ·rw [deep_mk]
    congr 3
    omega
   ·rw [size_mk, show c + (1 + sizes parts) = c + 1 + sizes parts by omega]
    exact B'
  refine loop_ok (vs := [.one (.int .i64), .one (.int .i64)]) (fun xs w' => ∃ i : Nat, i ≤ parts.length ∧ (show Int from xs.2.1.1) = (i : Int) ∧ (show Int from xs.1.1) = ((lv + deeps (parts.take i) : Nat) : Int) ∧ c + 1 + sizes (parts.take i) ≤ 400 ∧ Fr (oneB b) w w' ∧ Blk w' b T [.int .i64 ((c + 1 + sizes (parts.take i) : Nat) : Int)])
   (fun xs => parts.length - (show Int from xs.2.1.1).toNat) ?_ (xs := (((lv : Int), ()), (((0 : Int), ()), ()))) ⟨0, Nat.zero_le _, rfl, by rw [List.take_zero, deeps]; rfl, by rw [List.take_zero, sizes]; omega, G2, by rw [List.take_zero, sizes]; exact B2⟩
  rintro rec ⟨⟨y, ⟨⟩⟩, ⟨⟨z, ⟨⟩⟩, ⟨⟩⟩⟩ w3 ⟨i, hi, hz, hy, hle3, G3, B3⟩ hrec
  change z = (i : Int) at hz
  change y = _ at hy
  subst hz hy
  refine ite_ok (fun hlt => ?_) fun hge => ?_
  ·have hlt : (i : Int) < (ps.n : Int) := of_decide_eq_true hlt
   obtain ⟨s, hs⟩ : ∃ s, parts[i]? = some s := ⟨_, List.getElem?_eq_getElem (by omega)⟩
   have hsz := size_mem (List.mem_of_getElem? hs)
   have K3 : Fr noB w0 w3 := F0.then G3 (fun x hx hxb => by unfold oneB at hxb; omega)
   have hds := deep_pos s
   have hdz := deep_size s
   have hdt := deeps_sizes (parts.take i)
   have e1 := sizes_take hs
   have e2 := deeps_take hs
   have hle4 := sizes_take_le parts (i + 1)
   refine join_in (vs := [.one (.int .i64)]) (part_ld0 hps K3 hs hpn fun k1 o1 n1 ns1 ps1 hv1 => new_ok fun w4 m24 hm24 hs4 B4 F4 => fill_ok B4 rfl rfl rfl rfl rfl rfl fun w5 B5 F5 => ?_)
   change Blk w5 m24 _ (shCells k1 o1 n1 ns1 ps1) at B5
   have hsz3 := G3.size
   have F35 : Fr noB w3 w5 := F4.fill (by omega) F5
   have ew : IntKind.wrap .i64 ((lv : Int) + 1) = ((lv + 1 : Nat) : Int) := by rw [wrap_ok (by omega) (by omega)]; omega
   rw [ew]
   refine B5.ldV (callPan_ok (swalk_ok d s (by omega) hv1 (K3.tr F35) hb (B3.fr F35 fun h => h) hle3 (by omega)) ?_)
   rintro e w6 ⟨F6, ⟨hle6, rfl, B6⟩ | ⟨hgt, rfl, x, B6⟩⟩
   ·refine .inl ⟨((_, ()), ()), rfl, ?_⟩
    have G6 := st_fr (st_fr G3 F35.ob) F6
    have ew2 : IntKind.wrap .i64 ((i : Int) + 1) = ((i + 1 : Nat) : Int) := by rw [wrap_ok (by omega) (by omega)]; omega
    refine hrec ((_, ()), ((_, ()), ())) _ ⟨i + 1, by omega, ew2, ?_, by omega, G6, ?_⟩ ?_
    ·rw [e2]
     show (if ((lv + 1 + deep s - 1 : Nat) : Int) > ((lv + deeps (parts.take i) : Nat) : Int) then ((lv + 1 + deep s - 1 : Nat) : Int) else ((lv + deeps (parts.take i) : Nat) : Int)) = _
     split <;> omega
    ·rw [e1, show c + 1 + (sizes (parts.take i) + size s) = c + 1 + sizes (parts.take i) + size s by omega]
     exact B6
    ·show parts.length - (IntKind.wrap .i64 ((i : Int) + 1)).toNat < parts.length - (i : Int).toNat
     rw [ew2]
     simp only [Int.toNat_natCast]
     omega
   ·exact .inr ⟨_, rfl, st_fr (st_fr G3 F35.ob) F6, .inr ⟨by rw [size_mk]; omega, rfl, x, B6⟩⟩
  ·have hge : ¬ (i : Int) < (ps.n : Int) := of_decide_eq_false hge
   have : i = parts.length := by omega
   subst this
   rw [List.take_length] at hle3 B3 ⊢
   exact hkend _ _ ⟨rfl, hle3, G3, B3⟩
end Go.Proofs.YtngfnokbdcjoeaaGreatDoor
end
section
namespace Go.Shp
end Go.Shp
namespace Go.Proofs.YtngfnokbdcjoeaaGreatDoor
open Go.Lift Go.Lex Go.Shp
end Go.Proofs.YtngfnokbdcjoeaaGreatDoor
end
section
namespace Go.Proofs.YtngfnokbdcjoeaaGreatDoor
open Go.Lift Go.Lex Go.Shp
def NamedC : Prop := ∀ {w : World} {k : Int} {o n : ByteArray} {ns ps : Sl} {s : Shape}, ShV w k o n ns ps s → s.parts.length ≤ 1000 → AnsB 86 #[shArg k o n ns ps] w (namedOk s.names s.parts.length)
set_option maxHeartbeats 2000000 in
theorem sfits_ok (hN : NamedC) {w : World} {s : Shape} {k : Int} {o n : ByteArray} {ns ps : Sl} (hv : ShV w k o n ns ps s) (hM : s.parts.length ≤ 1000) : AnsB 55 #[shArg k o n ns ps] w (fits s) := by
 obtain ⟨k', o', n', names, parts⟩ := s
 obtain ⟨rfl, rfl, rfl, ⟨hns, hnl, hpn, hpl, hos, hnz, hxl⟩, hps⟩ := hv.parts
 change RdS w ns (names.map bs) at hns
 change ps.n = parts.length at hpn
 have hnn := hns.1
 rw [List.length_map] at hnn
 have hnm := @hN
 change parts.length ≤ 1000 at hM
 apply c55
 unfold t55 tvZ shZ ldIZ ldSZ ldLZ ld5mZ nw5Z caBZ jn0Z jnBZ
 refine new_ok fun w1 m5 hm5 hs1 B1 F1 => ?_
 change Blk w1 m5 _ (shCells k o n ns ps) at B1
 have d1 : ∀ {K : ByteArray → G} {R : Ending → World → Prop} {w' : World}, Fr noB w1 w' → K o R w' → ldG .str ⟨m5, 1, none⟩ K R w' := fun F h => (B1.fr F (fun h => h)).ld (c := .str) (o := 1) rfl h
 have d2 : ∀ {K : ByteArray → G} {R : Ending → World → Prop} {w' : World}, Fr noB w1 w' → K n R w' → ldG .str ⟨m5, 2, none⟩ K R w' := fun F h => (B1.fr F (fun h => h)).ld (c := .str) (o := 2) rfl h
 have d3 : ∀ {K : Sl → G} {R : Ending → World → Prop} {w' : World}, Fr noB w1 w' → K ns R w' → ldG .slice ⟨m5, 3, none⟩ K R w' := fun F h => (B1.fr F (fun h => h)).ldS (o := 3) rfl h
 have d4 : ∀ {K : Sl → G} {R : Ending → World → Prop} {w' : World}, Fr noB w1 w' → K ps R w' → ldG .slice ⟨m5, 4, none⟩ K R w' := fun F h => (B1.fr F (fun h => h)).ldS (o := 4) rfl h
 have e3 : (((ns.n : Nat) : Int) == 0) = names.isEmpty := by rw [hnn]; exact len0 names
 have e4 : (((ps.n : Nat) : Int) == 0) = parts.isEmpty := by rw [hpn]; exact len0 parts
 have R0 := Fr.refl noB w1
 generalize hT : fits (.mk k (bl o) (bl n) names parts) = T
 have hfit : T = (if k = 1 ∨ k = 2 ∨ k = 3 ∨ k = 4 then (bl o).isEmpty && (bl n).isEmpty && names.isEmpty && parts.isEmpty
  else if k = 5 then (bl o).isEmpty && (bl n).isEmpty && names.isEmpty && decide (parts.length = 1)
  else if k = 6 ∨ k = 7 then (bl o).isEmpty && (bl n).isEmpty && namedOk names parts.length
  else if k = 8 then (bl o).isEmpty && (bl n).isEmpty && names.isEmpty && decide (0 < parts.length)
  else if k = 9 then isUpper (bl n) && (((bl o).isEmpty && !plainT (bl n)) || isName (bl o)) && names.isEmpty && parts.isEmpty
  else if k = 10 then isUpper (bl n) && isName (bl o) && names.isEmpty && parts.isEmpty
  else false) := by rw [← hT]; rfl
 refine join1_ok (c := .bool) (fun (b : Bool) w' => b = ((bl o).isEmpty && (bl n).isEmpty) ∧ w' = w1) (fun kj hkj => d1 R0 ?_) ?_
 ·rw [emp_bl]
  refine ite_ok (fun h => d2 R0 (hkj _ _ ⟨?_, rfl⟩)) fun h => hkj _ _ ⟨by rw [h]; rfl, rfl⟩
  rw [emp_bl, h]
  rfl
 rintro b w2 ⟨rfl, hw⟩
 replace hw := hw.symm
 subst hw
 generalize hB : ((bl o).isEmpty && (bl n).isEmpty) = bare at hfit
 refine B1.ld (c := .int .i64) (x := k) (o := 0) rfl (join_in (vs := []) ?_)
 have key : ∀ (p : Prop) [Decidable p] {x : Bool}, x = true → (x = true ↔ p) → x = decide p := fun p _ x hx h => by rw [hx, decide_eq_true (h.1 hx)]
 refine join1_ok (c := .bool) (fun (b : Bool) w' => b = decide (k = 1 ∨ k = 2 ∨ k = 3 ∨ k = 4) ∧ w' = w1) (fun kj hkj => ite_ok (fun h => hkj _ _ ⟨?_, rfl⟩) fun h1 => join_in (vs := [.one .bool]) (ite_ok (fun h => hkj _ _ ⟨?_, rfl⟩) fun h2 => join_in (vs := [.one .bool]) (ite_ok (fun h => hkj _ _ ⟨?_, rfl⟩) fun h3 => hkj _ _ ⟨?_, rfl⟩))) ?_
 ·rw [Bool.eq_iff_iff, beq_iff_eq, decide_eq_true_eq]
  have h : k = 1 := by simpa using h
  omega
 ·rw [Bool.eq_iff_iff, beq_iff_eq, decide_eq_true_eq]
  have h : k = 2 := by simpa using h
  omega
 ·rw [Bool.eq_iff_iff, beq_iff_eq, decide_eq_true_eq]
  have h : k = 3 := by simpa using h
  omega
 ·have h1 : ¬ k = 1 := by simpa using h1
  have h2 : ¬ k = 2 := by simpa using h2
  have h3 : ¬ k = 3 := by simpa using h3
  rw [Bool.eq_iff_iff, beq_iff_eq, decide_eq_true_eq]
  omega
 rintro b w2 ⟨rfl, hw⟩
 replace hw := hw.symm
 subst hw
 -- the tail that four of the kinds share
 refine ite_ok (fun h => ?_) fun h14 => ?_
 ·have h : k = 1 ∨ k = 2 ∨ k = 3 ∨ k = 4 := of_decide_eq_true h
  rw [if_pos h] at hfit
  refine join1_ok (c := .bool) (fun (b : Bool) w' => b = T ∧ Fr noB w w') (fun kj hkj => ite_ok (fun hb => d3 R0 ?_) fun hb => hkj _ _ ⟨by rw [hfit, hb]; rfl, F1⟩) (fun b w' h => done_b h)
  rw [e3]
  refine ite_ok (fun hb3 => d4 R0 (hkj _ _ ⟨?_, F1⟩)) fun hb3 => hkj _ _ ⟨by rw [hfit, hb3]; simp, F1⟩
  rw [e4, hfit, hb, hb3]
  rfl
 have h14 : ¬ (k = 1 ∨ k = 2 ∨ k = 3 ∨ k = 4) := of_decide_eq_false h14
 rw [if_neg h14] at hfit
 refine ite_ok (fun h5 => ?_) fun h5 => ?_
 ·have h5 : k = 5 := by simpa using h5
  rw [if_pos h5] at hfit
  refine join1_ok (c := .bool) (fun (b : Bool) w' => b = T ∧ Fr noB w w') (fun kj hkj => ite_ok (fun hb => d3 R0 ?_) fun hb => hkj _ _ ⟨by rw [hfit, hb]; rfl, F1⟩) (fun b w' h => done_b h)
  rw [e3]
  refine ite_ok (fun hb3 => d4 R0 (hkj _ _ ⟨?_, F1⟩)) fun hb3 => hkj _ _ ⟨by rw [hfit, hb3]; simp, F1⟩
  rw [hfit, hb, hb3, Bool.true_and, Bool.true_and, Bool.eq_iff_iff, beq_iff_eq, decide_eq_true_eq]
  omega
 have h5 : ¬ k = 5 := by simpa using h5
 rw [if_neg (c := k = 5) h5] at hfit
 refine join1_ok (c := .bool) (fun (b : Bool) w' => b = decide (k = 6 ∨ k = 7) ∧ w' = w1) (fun kj hkj => ite_ok (fun h => hkj _ _ ⟨?_, rfl⟩) fun h6 => hkj _ _ ⟨?_, rfl⟩) ?_
 ·rw [Bool.eq_iff_iff, beq_iff_eq, decide_eq_true_eq]
  have h : k = 6 := by simpa using h
  omega
 ·have h6 : ¬ k = 6 := by simpa using h6
  rw [Bool.eq_iff_iff, beq_iff_eq, decide_eq_true_eq]
  omega
 rintro b w2 ⟨rfl, hw⟩
 replace hw := hw.symm
 subst hw
 refine ite_ok (fun h => ?_) fun h67 => ?_
 ·have h : k = 6 ∨ k = 7 := of_decide_eq_true h
  rw [if_pos h] at hfit
  refine join1_ok (c := .bool) (fun (b : Bool) w' => b = T ∧ Fr noB w w') (fun kj hkj => ite_ok (fun hb => B1.ldV (callB_ok (hnm (hv.fr F1) hM) fun w3 F3 => hkj _ _ ⟨?_, F1.tr F3⟩)) fun hb => hkj _ _ ⟨by rw [hfit, hb]; rfl, F1⟩) (fun b w' h => done_b h)
  rw [hfit, hb]
  rfl
 have h67 : ¬ (k = 6 ∨ k = 7) := of_decide_eq_false h67
 rw [if_neg h67] at hfit
 refine ite_ok (fun h8 => ?_) fun h8 => ?_
 ·have h8 : k = 8 := by simpa using h8
  rw [if_pos h8] at hfit
  refine join1_ok (c := .bool) (fun (b : Bool) w' => b = T ∧ Fr noB w w') (fun kj hkj => ite_ok (fun hb => d3 R0 ?_) fun hb => hkj _ _ ⟨by rw [hfit, hb]; rfl, F1⟩) (fun b w' h => done_b h)
  rw [e3]
  refine ite_ok (fun hb3 => d4 R0 (hkj _ _ ⟨?_, F1⟩)) fun hb3 => hkj _ _ ⟨by rw [hfit, hb3]; simp, F1⟩
  rw [hfit, hb, hb3, Bool.true_and, Bool.true_and]
  exact decide_eq_decide.2 (by omega)
 have h8 : ¬ k = 8 := by simpa using h8
 rw [if_neg (c := k = 8) h8] at hfit
 refine ite_ok (fun h9 => ?_) fun h9 => ?_
 ·have h9 : k = 9 := by simpa using h9
  rw [if_pos h9] at hfit
  refine join1_ok (c := .bool) (fun (b : Bool) w' => b = T ∧ Fr noB w w') (fun kj hkj => d2 R0 (callB_ok (Upper_ok n hnz) fun w3 F3 => ite_ok (fun hu => d1 F3 ?_) fun hu => hkj _ _ ⟨by rw [hfit, hu]; rfl, F1.tr F3⟩)) (fun b w' h => done_b h)
  have last : ∀ {w4 : World}, Fr noB w1 w4 → (((bl o).isEmpty && !plainT (bl n)) || isName (bl o)) = true → ldG .slice ⟨m5, 3, none⟩ (fun (l : Sl) => iteG (((l.n : Nat) : Int) == 0) (ldG .slice ⟨m5, 4, none⟩ fun (l2 : Sl) => kj (((l2.n : Nat) : Int) == 0)) (kj false)) (fun e w' => e = .returned (.bool T) ∧ Fr noB w w') w4 := by
   intro w4 F4 hmid
   refine d3 F4 ?_
   rw [e3]
   refine ite_ok (fun hb3 => d4 F4 (hkj _ _ ⟨?_, F1.tr F4⟩)) fun hb3 => hkj _ _ ⟨by rw [hfit, hb3]; simp, F1.tr F4⟩
   rw [e4, hfit, hu, hmid, hb3]
   rfl
  have name : ∀ {w4 : World}, Fr noB w1 w4 → ((bl o).isEmpty && !plainT (bl n)) = false → callG Tryz.prog 70 #[.string o] [.one .bool] (fun (b : Bool) => iteG b (ldG .slice ⟨m5, 3, none⟩ (fun (l : Sl) => iteG (((l.n : Nat) : Int) == 0) (ldG .slice ⟨m5, 4, none⟩ fun (l2 : Sl) => kj (((l2.n : Nat) : Int) == 0)) (kj false))) (kj false)) (fun e w' => e = .returned (.bool T) ∧ Fr noB w w') w4 := by
   intro w4 F4 hno
   refine callB_ok (Name_ok o hos) fun w5 F5 => ite_ok (fun hb => last (F4.tr F5) (by rw [hb, Bool.or_true])) fun hb => hkj _ _ ⟨?_, F1.tr (F4.tr F5)⟩
   rw [hfit, hu, hno, hb]
   rfl
  rw [emp_bl]
  refine ite_ok (fun ho => d2 F3 (callB_ok (splain_ok n) fun w4 F4 => ite_ok (fun hp => last (F3.tr F4) ?_) fun hp => d1 (F3.tr F4) (name (F3.tr F4) ?_))) fun ho => d1 F3 (name F3 ?_)
  ·rw [ho, hp]
   rfl
  ·rw [hp, Bool.and_false]
  ·rw [ho]
   rfl
 have h9 : ¬ k = 9 := by simpa using h9
 rw [if_neg (c := k = 9) h9] at hfit
 refine ite_ok (fun h10 => ?_) fun h10 => ?_
 ·have h10 : k = 10 := by simpa using h10
  rw [if_pos h10] at hfit
  refine join1_ok (c := .bool) (fun (b : Bool) w' => b = T ∧ Fr noB w w') (fun kj hkj => d2 R0 (callB_ok (Upper_ok n hnz) fun w3 F3 => ite_ok (fun hu => d1 F3 (callB_ok (Name_ok o hos) fun w4 F4 => ite_ok (fun hm => d3 (F3.tr F4) ?_) fun hm => hkj _ _ ⟨by rw [hfit, hu, hm]; rfl, F1.tr (F3.tr F4)⟩)) fun hu => hkj _ _ ⟨by rw [hfit, hu]; rfl, F1.tr F3⟩)) (fun b w' h => done_b h)
  rw [e3]
  refine ite_ok (fun hb3 => d4 (F3.tr F4) (hkj _ _ ⟨?_, F1.tr (F3.tr F4)⟩)) fun hb3 => hkj _ _ ⟨by rw [hfit, hb3]; simp, F1.tr (F3.tr F4)⟩
  rw [e4, hfit, hu, hm, hb3]
  rfl
 have h10 : ¬ k = 10 := by simpa using h10
 rw [if_neg (c := k = 10) h10] at hfit
 exact ⟨by rw [hfit], F1⟩
end Go.Proofs.YtngfnokbdcjoeaaGreatDoor
end
section

end
section
namespace Go.Proofs.YtngfnokbdcjoeaaGreatDoor
open Go.Lift Go.Lex Go.Shp
def CountC : Prop := ∀ {w : World} {k : Int} {o n : ByteArray} {ns ps : Sl} {s : Shape}, ShV w k o n ns ps s → Calls Tryz.prog 53 #[shArg k o n ns ps] w fun e w' => e = .returned (.tuple #[.int .i64 (if 400 < size s then 401 else (size s : Int)), .int .i64 (if 400 < size s then 0 else (deep s : Int)), .bool (decide (size s ≤ 400))]) ∧ Fr noB w w'
def CheckC : Prop := ∀ {w : World} {s : Shape} {k : Int} {o n : ByteArray} {ns ps : Sl}, ShV w k o n ns ps s → Calls Tryz.prog 33 #[shArg k o n ns ps] w fun e w' => e = .returned (.int .i64 ((check s : Nat) : Int)) ∧ Fr noB w w'
theorem resFits : (resOf Tryz.prog 55).isSome = true := by kernel_rfl
theorem callIIB_ok {w : World} {R : Ending → World → Prop} {f : FuncId} {args : Array Value} {a b : Int} {c : Bool} (hc : Calls Tryz.prog f args w fun e w' => e = .returned (.tuple #[.int .i64 a, .int .i64 b, .bool c]) ∧ Fr noB w w') {K : Int → Int → Bool → G}
  (h : ∀ w', Fr noB w w' → K a b c R w') : callG Tryz.prog f args [.one (.int .i64), .one (.int .i64), .one .bool] K R w :=
 call_ok hc fun _ w' ⟨he, F⟩ => ⟨((a, ()), ((b, ()), ((c, ()), ()))), he, h w' F⟩
theorem scheck_ok (hK : CountC) (hN : NamedC) : CheckC := by
 intro w s k o n ns ps hv
 apply c33
 unfold t33 ivZ shZ ld5mZ nw5Z caBZ caZ jn0Z
 refine new_ok fun w1 m5 hm5 hs1 B1 F1 => ?_
 change Blk w1 m5 _ (shCells k o n ns ps) at B1
 refine B1.ldV (callIIB_ok (hK (hv.fr F1)) fun w2 F2 => join_in (vs := []) ?_)
 have F12 := F1.tr F2
 unfold check
 refine ite_ok (fun h => ⟨?_, F12⟩) fun h => ?_
 ·have h : ¬ size s ≤ 400 := by simpa using h
  rw [if_pos (by omega)]
  rfl
 have h : size s ≤ 400 := by simpa using h
 rw [if_neg (by omega), if_neg (by omega)]
 refine ite_ok (fun h => ⟨?_, F12⟩) fun h => ?_
 ·have h : ((deep s : Nat) : Int) > 40 := of_decide_eq_true h
  rw [if_pos (by omega)]
  rfl
 have h : ¬ ((deep s : Nat) : Int) > 40 := of_decide_eq_false h
 rw [if_neg (by omega)]
 refine (B1.fr F2 (fun h => h)).ldV (callB_ok (sall_ok (M := 1000) (p := fits) ⟨_, rfl, resFits, fun x hx _ _ _ _ _ _ hv => sfits_ok @hN hv (by obtain ⟨_, _, _, _, ps⟩ := x; rw [size_mk] at hx; have := sizes_len ps; show ps.length ≤ 1000; omega)⟩ (size s) s (Nat.le_refl _) (by omega) (hv.fr F12)) fun w3 F3 => ?_)
 rw [allS_fits]
 cases hf : allFit s with
 | true => exact ite_no rfl ⟨rfl, F12.tr F3⟩
 | false => exact ite_yes rfl ⟨rfl, F12.tr F3⟩
section
variable {s s' : Shape} {w : World} {k : Int} {o n : ByteArray} {ns ps : Sl} {k2 : Int} {o2 n2 : ByteArray} {ns2 ps2 : Sl}
end
section
variable {s s' : Shape} {w : World} {k : Int} {o n : ByteArray} {ns ps : Sl} {k2 : Int} {o2 n2 : ByteArray} {ns2 ps2 : Sl}
end
end Go.Proofs.YtngfnokbdcjoeaaGreatDoor
end
section
namespace Go.Proofs.YtngfnokbdcjoeaaGreatDoor
open Go.Lift Go.Lex Go.Shp
theorem opB_ok {P : Program} {s : Sem Value} {k : Bool → G} {R : Ending → World → Prop} {w : World} (b : Bool) (hr : s.run P w = .ok (.bool b) w) (h : k b R w) : opG P s (.one .bool) k R w := ⟨(b, ()), w, hr, h⟩
def behindC : Option Code → Code
 | some (.seq _ c) => c
 | _ => .skip
def catchEnv (b0 b1 b2 : Nat) : Env := [(0, .v (.pointer (some ⟨b0, 0, none⟩))), (1, .v (.pointer (some ⟨b1, 0, none⟩))), (2, .v (.pointer (some ⟨b2, 0, none⟩))), (3, .v (.iface 91 (.agg #[])))]
theorem catchGet {b0 b1 b2 t : Nat} {e : EV} (h : (catchEnv b0 b1 b2).get t = some e) : (t = 0 ∧ e = .v (.pointer (some ⟨b0, 0, none⟩))) ∨ (t = 1 ∧ e = .v (.pointer (some ⟨b1, 0, none⟩))) ∨ (t = 2 ∧ e = .v (.pointer (some ⟨b2, 0, none⟩))) ∨ (t = 3 ∧ e = .v (.iface 91 (.agg #[]))) := by
 unfold catchEnv at h
 simp only [Env.get] at h
 cases h0 : Nat.beq 0 t with
 | true => rw [h0] at h; cases h; exact .inl ⟨(Nat.eq_of_beq_eq_true h0).symm, rfl⟩
 | false =>
  rw [h0] at h
  cases h1 : Nat.beq 1 t with
  | true => rw [h1] at h; cases h; exact .inr (.inl ⟨(Nat.eq_of_beq_eq_true h1).symm, rfl⟩)
  | false =>
   rw [h1] at h
   cases h2 : Nat.beq 2 t with
   | true => rw [h2] at h; cases h; exact .inr (.inr (.inl ⟨(Nat.eq_of_beq_eq_true h2).symm, rfl⟩))
   | false =>
    rw [h2] at h
    cases h3 : Nat.beq 3 t with
    | true => rw [h3] at h; cases h; exact .inr (.inr (.inr ⟨(Nat.eq_of_beq_eq_true h3).symm, rfl⟩))
    | false => rw [h3] at h; cases h
def catchK : Ex → Env → G := fun e _ => match e with
 | .exit _ => failG "exit"
 | _ => retG (.tuple #[])
theorem catchE (b0 b1 b2 : Nat) : den Tryz.prog (GA Tryz.prog) 17 (behindC Tryz.f83.body) .leaf [] (catchEnv b0 b1 b2) catchK =
  opG Tryz.prog (eqSem .neq 20 (.tmp 7) (.const .nilIface) (.iface 91 (.agg #[])) .nilIface) (.one .bool) (fun (b : Bool) => iteG b (newG (.cells #[] 91 (0, 0)) (fun _ => stG ⟨b0, 0, none⟩ (.int .i64 401) (stG ⟨b1, 0, none⟩ (.int .i64 0) (stG ⟨b2, 0, none⟩ (.bool false) (retG (.tuple #[])))))) (retG (.tuple #[]))) := by kernel_rfl
theorem catch_full {b0 b1 b2 : Nat} {T U V : TypeId} {x y : Int} {z : Bool} {w : World} (B0 : Blk w b0 T [.int .i64 x]) (B1 : Blk w b1 U [.int .i64 y]) (B2 : Blk w b2 V [.bool z]) (h01 : b0 ≠ b1) (h02 : b0 ≠ b2) (h12 : b1 ≠ b2) :
  CallsD Tryz.prog 83 #[.pointer (some ⟨b0, 0, none⟩), .pointer (some ⟨b1, 0, none⟩), .pointer (some ⟨b2, 0, none⟩)] (.panicking fullC) w fun e u' w' =>
   e = .returned (.tuple #[]) ∧ (∃ v, u' = .panicking [{ v := v, recovered := true }]) ∧ Blk w' b0 T [.int .i64 401] ∧ Blk w' b1 U [.int .i64 0] ∧ Blk w' b2 V [.bool false] ∧ Fr (fun k => k = b0 ∨ k = b1 ∨ k = b2) w w' := by
 refine callsD_of_wpS Tryz.func83 rfl fun c₀ cs hu => ?_
 unfold fullC at hu
 apply wpS_seq
 apply wpS_region
 simp [wpOpsS, go_sem, recoverD, hu, Tryz.ntmps83, Exit.thenS]
 change Code.wpS Tryz.prog (behindC Tryz.f83.body) _ _ _ _
 refine wpS_of_wp ?_
 refine wp_mono (den_ok (D := []) (n := 17) (R := fun e w' => e = .returned (.tuple #[]) ∧ Blk w' b0 T [.int .i64 401] ∧ Blk w' b1 U [.int .i64 0] ∧ Blk w' b2 V [.bool false] ∧ Fr (fun k => k = b0 ∨ k = b1 ∨ k = b2) w w') mixed _ .leaf [] (catchEnv b0 b1 b2) catchK _ _ ?_ ?_) ?_
 ·rw [catchE]
  refine opB_ok true (by simp [eqSem, go_sem]) (ite_yes rfl ?_)
  refine new_ok fun w1 m hm hs1 _ F1 => ?_
  refine (B0.fr F1 fun h => h).st rfl (by simp) fun w2 C0 F2 => ((B1.fr F1 fun h => h).fr F2 (by unfold oneB; omega)).st rfl (by simp) fun w3 C1 F3 => (((B2.fr F1 fun h => h).fr F2 (by unfold oneB; omega)).fr F3 (by unfold oneB; omega)).st rfl (by simp) fun w4 C2 F4 => ?_
  refine ⟨rfl, (C0.fr F3 (by unfold oneB; omega)).fr F4 (by unfold oneB; omega), C1.fr F4 (by unfold oneB; omega), C2, ?_⟩
  have K1 : Fr (fun k => k = b0 ∨ k = b1 ∨ k = b2) w w1 := F1.mono fun _ _ h => h.elim
  have K2 : Fr (fun k => k = b0 ∨ k = b1 ∨ k = b2) w1 w2 := F2.mono fun _ _ h => .inl h
  have K3 : Fr (fun k => k = b0 ∨ k = b1 ∨ k = b2) w2 w3 := F3.mono fun _ _ h => .inr (.inl h)
  have K4 : Fr (fun k => k = b0 ∨ k = b1 ∨ k = b2) w3 w4 := F4.mono fun _ _ h => .inr (.inr h)
  exact ((K1.then K2 fun _ _ h => h).then K3 fun _ _ h => h).then K4 fun _ _ h => h
 ·refine ⟨by simp, rfl, fun t e h => ?_⟩
  rcases catchGet h with ⟨rfl, rfl⟩ | ⟨rfl, rfl⟩ | ⟨rfl, rfl⟩ | ⟨rfl, rfl⟩ <;> simp [EV.val]
 ·rintro e a' w' q
  cases e with
  | normal =>
   obtain ⟨env', h1, _, h3⟩ := q
   obtain ⟨he, r⟩ := h3
   exact ⟨h1.defers, _, rfl, _, results_none rfl _ _ _, rfl, ⟨_, rfl⟩, r⟩
  | ret =>
   obtain ⟨env', h1, _, h3⟩ := q
   obtain ⟨he, r⟩ := h3
   exact ⟨h1.defers, _, rfl, _, results_none rfl _ _ _, rfl, ⟨_, rfl⟩, r⟩
  | panic c => cases q.2.2.1
  | exit id => obtain ⟨_, _, _, h3⟩ := q; exact h3.elim
  | _ => exact q.elim
theorem catch_none {p0 p1 p2 : Value} {w : World} :
  CallsD Tryz.prog 83 #[p0, p1, p2] .returning w fun e u' w' => e = .returned (.tuple #[]) ∧ u' = .returning ∧ w' = w := by
 refine callsD_of_wpS Tryz.func83 rfl fun c₀ cs hu => ?_
 apply wpS_seq
 apply wpS_region
 simp [wpOpsS, go_sem, recoverD, hu, Tryz.ntmps83, Exit.thenS]
 apply wpS_seq
 apply wpS_region
 simp [wpOpsS, go_sem, Exit.thenS]
 refine wpS_cond (t := false) (by simp [Act.eval, Array.replicate]) ?_
 simp only [Bool.false_eq_true, if_false]
 refine wpS_of_wp (wp_skip ?_)
 refine ⟨rfl, _, rfl, _, results_none rfl _ _ _, rfl, ?_, rfl⟩
 first | rfl | exact hu
def countEnv (h : Nat) : Env := [(1, .v (.pointer (some ⟨h, 0, none⟩))), (2, .v (.pointer (some ⟨h + 1, 0, none⟩))), (3, .v (.pointer (some ⟨h + 1 + 1, 0, none⟩))), (4, .v (.pointer (some ⟨h + 1 + 1 + 1, 0, none⟩)))]
theorem countGet {h t : Nat} {e : EV} (hg : (countEnv h).get t = some e) : (t = 1 ∧ e = .v (.pointer (some ⟨h, 0, none⟩))) ∨ (t = 2 ∧ e = .v (.pointer (some ⟨h + 1, 0, none⟩))) ∨ (t = 3 ∧ e = .v (.pointer (some ⟨h + 1 + 1, 0, none⟩))) ∨ (t = 4 ∧ e = .v (.pointer (some ⟨h + 1 + 1 + 1, 0, none⟩))) := by
 unfold countEnv at hg
 simp only [Env.get] at hg
 cases h0 : Nat.beq 1 t with
 | true => rw [h0] at hg; cases hg; exact .inl ⟨(Nat.eq_of_beq_eq_true h0).symm, rfl⟩
 | false =>
  rw [h0] at hg
  cases h1 : Nat.beq 2 t with
  | true => rw [h1] at hg; cases hg; exact .inr (.inl ⟨(Nat.eq_of_beq_eq_true h1).symm, rfl⟩)
  | false =>
   rw [h1] at hg
   cases h2 : Nat.beq 3 t with
   | true => rw [h2] at hg; cases hg; exact .inr (.inr (.inl ⟨(Nat.eq_of_beq_eq_true h2).symm, rfl⟩))
   | false =>
    rw [h2] at hg
    cases h3 : Nat.beq 4 t with
    | true => rw [h3] at hg; cases hg; exact .inr (.inr (.inr ⟨(Nat.eq_of_beq_eq_true h3).symm, rfl⟩))
    | false => rw [h3] at hg; cases hg
theorem countE (h : Nat) : den Tryz.prog (GA Tryz.prog) 11 (behindC (some (behindC Tryz.f53.body))) .leaf [2, 3, 4] (countEnv h) catchK =
  ldG (.int .i64) ⟨h, 0, none⟩ (fun (k : Int) => ldG .str ⟨h, 1, none⟩ (fun (o : ByteArray) => ldG .str ⟨h, 2, none⟩ (fun (n : ByteArray) => ldG .slice ⟨h, 3, none⟩ (fun (ns : Sl) => ldG .slice ⟨h, 4, none⟩ (fun (ps : Sl) =>
   callG Tryz.prog 84 #[shArg k o n ns ps, .int .i64 1, .func (.func 85) #[] #[.pointer (some ⟨h + 1, 0, none⟩)]] [.one (.int .i64)] (fun (d : Int) => stG ⟨h + 1 + 1, 0, none⟩ (.int .i64 d) (drewG
    (ldG (.int .i64) ⟨h + 1, 0, none⟩ (fun (x : Int) => ldG (.int .i64) ⟨h + 1 + 1, 0, none⟩ (fun (y : Int) => stG ⟨h + 1, 0, none⟩ (.int .i64 x) (keepG [(⟨h + 1 + 1, 0, none⟩, [.int .i64 y])] (stG ⟨h + 1 + 1, 0, none⟩ (.int .i64 y) (stG ⟨h + 1 + 1 + 1, 0, none⟩ (.bool true) (retG (.tuple #[]))))))))))))))) := by kernel_rfl
theorem countRes {tmps : Array Value} {w : World} {b0 b1 b2 : Nat} {T U V : TypeId} {x y : Int} {z : Bool} (h2 : tmps.getD 2 undef = .pointer (some ⟨b0, 0, none⟩)) (h3 : tmps.getD 3 undef = .pointer (some ⟨b1, 0, none⟩)) (h4 : tmps.getD 4 undef = .pointer (some ⟨b2, 0, none⟩))
  (B0 : Blk w b0 T [.int .i64 x]) (B1 : Blk w b1 U [.int .i64 y]) (B2 : Blk w b2 V [.bool z]) : (results Tryz.f53 tmps).run Tryz.prog w = .ok (.tuple #[.int .i64 x, .int .i64 y, .bool z]) w := by
 have c0 := B0.cell (o := 0) rfl
 have c1 := B1.cell (o := 0) rfl
 have c2 := B2.cell (o := 0) rfl
 have hr : Tryz.f53.results = #[.cell 2 3, .cell 3 3, .cell 4 4] := rfl
 rw [results_eq, hr]
 simp [resV, h2, h3, h4, c0, c1, c2, go_sem]
theorem scount_ok {w : World} {k : Int} {o n : ByteArray} {ns ps : Sl} {s : Shape} (hv : ShV w k o n ns ps s) : Calls Tryz.prog 53 #[shArg k o n ns ps] w fun e w' => e = .returned (.tuple #[.int .i64 (if 400 < size s then 401 else (size s : Int)), .int .i64 (if 400 < size s then 0 else (deep s : Int)), .bool (decide (size s ≤ 400))]) ∧ Fr noB w w' := by
 have hmf : ∀ (fn : Fn) (first cap : Array Value) (w : World), (Instr.makeFunc fn first cap).run Tryz.prog w = .ok (.func fn first cap) w := fun _ _ _ _ => rfl
 go_enter_defers Tryz.func53, Tryz.ntmps53
 apply wp_seq
 apply wp_region_list
 simp [wpList, Oper.wp, go_sem, Exit.then]
 repeat refine Or.inl ?_
 apply wp_seq
 apply wp_region_list
 simp [wpList, Oper.wp, go_sem, Exit.then]
 repeat refine Or.inl ?_
 change Code.wp _ (behindC (some (behindC Tryz.f53.body))) _ _ _
 have A0 : Blk (w.alloc (.cells #[.int .i64 k, .string o, .string n, .slice ns.a ns.n ns.c, .slice ps.a ps.n ps.c] 36)) w.heap.size 36 (shCells k o n ns ps) := blk_alloc w _ _
 have G0 := fr_alloc w (.cells #[.int .i64 k, .string o, .string n, .slice ns.a ns.n ns.c, .slice ps.a ps.n ps.c] 36)
 have z0 : (w.alloc (.cells #[.int .i64 k, .string o, .string n, .slice ns.a ns.n ns.c, .slice ps.a ps.n ps.c] 36)).heap.size = w.heap.size + 1 := by simp
 generalize w.alloc (.cells #[.int .i64 k, .string o, .string n, .slice ns.a ns.n ns.c, .slice ps.a ps.n ps.c] 36) = w0 at A0 G0 z0 ⊢
 have A1 := blk_alloc w0 #[.int .i64 0] 3
 have G1 := fr_alloc w0 (.cells #[.int .i64 0] 3)
 have z1 : (w0.alloc (.cells #[.int .i64 0] 3)).heap.size = w.heap.size + 1 + 1 := by simp [z0]
 rw [z0] at A1
 replace A0 := A0.fr G1 fun h => h
 replace G1 := G0.tr G1
 generalize w0.alloc (.cells #[.int .i64 0] 3) = w1 at A0 A1 G1 z1 ⊢
 have A2 := blk_alloc w1 #[.int .i64 0] 3
 have G2 := fr_alloc w1 (.cells #[.int .i64 0] 3)
 have z2 : (w1.alloc (.cells #[.int .i64 0] 3)).heap.size = w.heap.size + 1 + 1 + 1 := by simp [z1]
 rw [z1] at A2
 replace A0 := A0.fr G2 fun h => h
 replace A1 := A1.fr G2 fun h => h
 replace G2 := G1.tr G2
 generalize w1.alloc (.cells #[.int .i64 0] 3) = w2 at A0 A1 A2 G2 z2 ⊢
 have A3 := blk_alloc w2 #[.bool false] 4
 have G3 := fr_alloc w2 (.cells #[.bool false] 4)
 rw [z2] at A3
 replace A0 := A0.fr G3 fun h => h
 replace A1 := A1.fr G3 fun h => h
 replace A2 := A2.fr G3 fun h => h
 replace G3 := G2.tr G3
 generalize w2.alloc (.cells #[.bool false] 4) = w3 at A0 A1 A2 A3 G3 ⊢
 clear G0 G1 G2 z0 z1 z2 w0 w1 w2
 refine wp_mono (den_ok (n := 11) (D := [{ target := .fn (.func 83) #[.pointer (some ⟨w.heap.size + 1, 0, none⟩), .pointer (some ⟨w.heap.size + 1 + 1, 0, none⟩), .pointer (some ⟨w.heap.size + 1 + 1 + 1, 0, none⟩)], args := #[] }])
  (R := fun e w' => Fr noB w w' ∧ ((size s ≤ 400 ∧ e = .returned (.tuple #[]) ∧ Blk w' (w.heap.size + 1) 3 [.int .i64 (size s : Int)] ∧ Blk w' (w.heap.size + 1 + 1) 3 [.int .i64 (deep s : Int)] ∧ Blk w' (w.heap.size + 1 + 1 + 1) 4 [.bool true]) ∨
   (400 < size s ∧ e = .panicked fullC ∧ ∃ (x y : Int) (z : Bool), Blk w' (w.heap.size + 1) 3 [.int .i64 x] ∧ Blk w' (w.heap.size + 1 + 1) 3 [.int .i64 y] ∧ Blk w' (w.heap.size + 1 + 1 + 1) 4 [.bool z]))) mixed _ .leaf [2, 3, 4] (countEnv w.heap.size) catchK _ _ ?_ ?_) ?_
 ·rw [countE]
  refine A0.ldV (callPan_ok (swalk_ok (size s) s (Nat.le_refl _) (c := 0) (lv := 1) hv G3 (by omega) A1 (by omega) (by omega)) ?_)
  rintro e w4 ⟨F4, ⟨hle, rfl, B1⟩ | ⟨hgt, rfl, x, B1⟩⟩
  ·refine .inl ⟨((_, ()), ()), rfl, ?_⟩
   have B2 := A2.fr F4 (by unfold oneB; omega)
   have B3 := A3.fr F4 (by unfold oneB; omega)
   have K4 : Fr noB w w4 := G3.then F4 fun x hx h => by unfold oneB at h; omega
   refine B2.st rfl (by simp) fun w5 C2 F5 => drew_ok fun w6 F6 z6 => ?_
   have C1 := (B1.fr F5 (by unfold oneB; omega)).fr F6 fun h => h
   have C3 := (B3.fr F5 (by unfold oneB; omega)).fr F6 fun h => h
   replace C2 := C2.fr F6 fun h => h
   refine C1.ld (c := .int .i64) (o := 0) rfl (C2.ld (c := .int .i64) (o := 0) rfl (C1.st rfl (by simp) fun w7 E1 F7 => ?_))
   have E2 := C2.fr F7 (by unfold oneB; omega)
   have E3 := C3.fr F7 (by unfold oneB; omega)
   refine keep_cons (E2.held1 rfl) (keep_nil (E2.st rfl (by simp) fun w8 H2 F8 => ?_))
   have H1 := E1.fr F8 (by unfold oneB; omega)
   have H3 := E3.fr F8 (by unfold oneB; omega)
   refine H3.st rfl (by simp) fun w9 J3 F9 => ?_
   have J1 := H1.fr F9 (by unfold oneB; omega)
   have J2 := H2.fr F9 (by unfold oneB; omega)
   have K9 : Fr noB w w9 := ((((K4.then F5 fun x hx h => by unfold oneB at h; omega).tr F6).then F7 fun x hx h => by unfold oneB at h; omega).then F8 fun x hx h => by unfold oneB at h; omega).then F9 fun x hx h => by unfold oneB at h; omega
   have e1 : 1 + deep s - 1 = deep s := by omega
   rw [e1] at J2
   rw [Nat.zero_add] at J1
   exact ⟨K9, .inl ⟨by omega, rfl, J1, J2, J3⟩⟩
  ·refine .inr ⟨_, rfl, G3.then F4 (fun x hx h => by unfold oneB at h; omega), .inr ⟨by omega, rfl, x, 0, false, B1, A2.fr F4 (by unfold oneB; omega), A3.fr F4 (by unfold oneB; omega)⟩⟩
 ·refine ⟨by simp, rfl, fun t e h => ?_⟩
  rcases countGet h with ⟨rfl, rfl⟩ | ⟨rfl, rfl⟩ | ⟨rfl, rfl⟩ | ⟨rfl, rfl⟩ <;> simp [EV.val]
 ·have hK : ∀ a' : Act, Kept [2, 3, 4] { tmps := #[shArg k o n ns ps, .pointer (some ⟨w.heap.size, 0, none⟩), .pointer (some ⟨w.heap.size + 1, 0, none⟩), .pointer (some ⟨w.heap.size + 1 + 1, 0, none⟩), .pointer (some ⟨w.heap.size + 1 + 1 + 1, 0, none⟩), .func (.func 83) #[] #[.pointer (some ⟨w.heap.size + 1, 0, none⟩), .pointer (some ⟨w.heap.size + 1 + 1, 0, none⟩), .pointer (some ⟨w.heap.size + 1 + 1 + 1, 0, none⟩)], undef, undef, undef, undef, undef], defers := [{ target := .fn (.func 83) #[.pointer (some ⟨w.heap.size + 1, 0, none⟩), .pointer (some ⟨w.heap.size + 1 + 1, 0, none⟩), .pointer (some ⟨w.heap.size + 1 + 1 + 1, 0, none⟩)], args := #[] }] } a' →
    a'.tmps.getD 2 undef = .pointer (some ⟨w.heap.size + 1, 0, none⟩) ∧ a'.tmps.getD 3 undef = .pointer (some ⟨w.heap.size + 1 + 1, 0, none⟩) ∧ a'.tmps.getD 4 undef = .pointer (some ⟨w.heap.size + 1 + 1 + 1, 0, none⟩) := fun a' h => ⟨h 2 rfl, h 3 rfl, h 4 rfl⟩
  have fin : ∀ (a' : Act) (w' : World), a'.defers = [{ target := .fn (.func 83) #[.pointer (some ⟨w.heap.size + 1, 0, none⟩), .pointer (some ⟨w.heap.size + 1 + 1, 0, none⟩), .pointer (some ⟨w.heap.size + 1 + 1 + 1, 0, none⟩)], args := #[] }] →
    (a'.tmps.getD 2 undef = .pointer (some ⟨w.heap.size + 1, 0, none⟩) ∧ a'.tmps.getD 3 undef = .pointer (some ⟨w.heap.size + 1 + 1, 0, none⟩) ∧ a'.tmps.getD 4 undef = .pointer (some ⟨w.heap.size + 1 + 1 + 1, 0, none⟩)) →
    Fr noB w w' → size s ≤ 400 → Blk w' (w.heap.size + 1) 3 [.int .i64 (size s : Int)] → Blk w' (w.heap.size + 1 + 1) 3 [.int .i64 (deep s : Int)] → Blk w' (w.heap.size + 1 + 1 + 1) 4 [.bool true] →
    Leaves Tryz.prog Tryz.f53 a'.tmps (fun e w' => e = .returned (.tuple #[.int .i64 (if 400 < size s then 401 else (size s : Int)), .int .i64 (if 400 < size s then 0 else (deep s : Int)), .bool (decide (size s ≤ 400))]) ∧ Fr noB w w') a'.defers .returning w' := by
   intro a' w' hd ⟨t2, t3, t4⟩ F hle B1 B2 B3
   rw [hd]
   refine leaves_cons (f := 83) (args := #[.pointer (some ⟨w.heap.size + 1, 0, none⟩), .pointer (some ⟨w.heap.size + 1 + 1, 0, none⟩), .pointer (some ⟨w.heap.size + 1 + 1 + 1, 0, none⟩)]) (by simp) (by simp [go_sem]) ?_
   refine catch_none.mono ?_
   rintro e u' w'' ⟨rfl, rfl, rfl⟩
   refine ⟨_, countRes t2 t3 t4 B1 B2 B3, ?_, F⟩
   rw [if_neg (by omega), if_neg (by omega), decide_eq_true hle]
  rintro e a' w' q
  cases e with
  | normal =>
   obtain ⟨env', h1, h2, h3⟩ := q
   obtain ⟨F, ⟨hle, _, B1, B2, B3⟩ | ⟨_, h4, _⟩⟩ := h3
   ·exact fin a' w' h1.defers (hK _ h2) F hle B1 B2 B3
   ·cases h4
  | ret =>
   obtain ⟨env', h1, h2, h3⟩ := q
   obtain ⟨F, ⟨hle, _, B1, B2, B3⟩ | ⟨_, h4, _⟩⟩ := h3
   ·exact fin a' w' h1.defers (hK _ h2) F hle B1 B2 B3
   ·cases h4
  | panic c =>
   obtain ⟨hd, hk, F, ⟨_, h4, _⟩ | ⟨hgt, h4, x, y, z, B1, B2, B3⟩⟩ := q
   ·cases h4
   cases h4
   obtain ⟨t2, t3, t4⟩ := hK _ hk
   show Leaves _ _ _ _ a'.defers _ _
   rw [hd]
   refine leaves_cons (f := 83) (args := #[.pointer (some ⟨w.heap.size + 1, 0, none⟩), .pointer (some ⟨w.heap.size + 1 + 1, 0, none⟩), .pointer (some ⟨w.heap.size + 1 + 1 + 1, 0, none⟩)]) (by simp) (by simp [go_sem]) ?_
   refine (catch_full B1 B2 B3 (by omega) (by omega) (by omega)).mono ?_
   rintro e u' w'' ⟨rfl, ⟨v, rfl⟩, C1, C2, C3, F2⟩
   refine ⟨_, countRes t2 t3 t4 C1 C2 C3, ?_, F.then F2 fun x hx h => ?_⟩
   ·rw [if_pos hgt, if_pos hgt, decide_eq_false (by omega)]
   ·show False
    omega
  | exit id => obtain ⟨_, _, _, h3⟩ := q; exact h3.elim
  | _ => exact q.elim
theorem scountC : CountC := fun hv => scount_ok hv
end Go.Proofs.YtngfnokbdcjoeaaGreatDoor
end
