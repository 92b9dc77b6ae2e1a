/- The law behind: one part of its proof (joined by program out of my own texts). No condition. -/
import Derived.Test.YticokfpaoiekgaaGreatDoorFdrAW
section
namespace Go.Proofs.YticokfpaoiekgaaGreatDoor
open Go.Lift Go.Lex Go.Shp
def CountC : Prop := ∀ {w : World} {k : Int} {o n : ByteArray} {ns ps : Sl} {s : Shape}, ShV w k o n ns ps s → Calls Tryz.prog 60 #[shArg k o n ns ps] w fun e w' => e = .returned (.tuple #[.int .i64 (if 400 < size s then 401 else (size s : Int)), .int .i64 (if 400 < size s then 0 else (deep s : Int)), .bool (decide (size s ≤ 400))]) ∧ Fr noB w w'
def CheckC : Prop := ∀ {w : World} {s : Shape} {k : Int} {o n : ByteArray} {ns ps : Sl}, ShV w k o n ns ps s → Calls Tryz.prog 36 #[shArg k o n ns ps] w fun e w' => e = .returned (.int .i64 ((check s : Nat) : Int)) ∧ Fr noB w w'
def SortedC : Prop := ∀ (s : Shape), size s ≤ 1000 → allFit s = true → ∀ {w : World} {k : Int} {o n : ByteArray} {ns ps : Sl}, ShV w k o n ns ps s → Calls Tryz.prog 40 #[shArg k o n ns ps] w (SortP w (sortS s))
def BelowC : Prop := ∀ (d : Nat) (s s' : Shape), deep s ≤ d → deep s' ≤ d → allFit s = true → allFit s' = true → ∀ {w : World} {k : Int} {o n : ByteArray} {ns ps : Sl} {k2 : Int} {o2 n2 : ByteArray} {ns2 ps2 : Sl}, ShV w k o n ns ps s → ShV w k2 o2 n2 ns2 ps2 s' →
  AnsB 37 #[shArg k o n ns ps, shArg k2 o2 n2 ns2 ps2] w (belowF d s s')
def NearC : Prop := ∀ {s s' : Shape} {w : World} {k : Int} {o n : ByteArray} {ns ps : Sl} {k2 : Int} {o2 n2 : ByteArray} {ns2 ps2 : Sl}, ShV w k o n ns ps s → ShV w k2 o2 n2 ns2 ps2 s' →
  AnsB 22 #[shArg k o n ns ps, shArg k2 o2 n2 ns2 ps2] w (isNear s s')
theorem resFits : (resOf Tryz.prog 62).isSome = true := by kernel_rfl
theorem callIIB_ok {w : World} {R : Ending → World → Prop} {f : FuncId} {args : Array Value} {a b : Int} {c : Bool} (hc : Calls Tryz.prog f args w fun e w' => e = .returned (.tuple #[.int .i64 a, .int .i64 b, .bool c]) ∧ Fr noB w w') {K : Int → Int → Bool → G}
  (h : ∀ w', Fr noB w w' → K a b c R w') : callG Tryz.prog f args [.one (.int .i64), .one (.int .i64), .one .bool] K R w :=
 call_ok hc fun _ w' ⟨he, F⟩ => ⟨((a, ()), ((b, ()), ((c, ()), ()))), he, h w' F⟩
theorem scheck_ok (hK : CountC) (hN : NamedC) : CheckC := by
 intro w s k o n ns ps hv
 apply c36
 unfold t36 ivZ shZ ld5mZ nw5Z caBZ caZ jn0Z
 refine new_ok fun w1 m5 hm5 hs1 B1 F1 => ?_
 change Blk w1 m5 _ (shCells k o n ns ps) at B1
 refine B1.ldV (callIIB_ok (hK (hv.fr F1)) fun w2 F2 => join_in (vs := []) ?_)
 have F12 := F1.tr F2
 unfold check
 refine ite_ok (fun h => ⟨?_, F12⟩) fun h => ?_
 ·have h : ¬ size s ≤ 400 := by simpa using h
  rw [if_pos (by omega)]
  rfl
 have h : size s ≤ 400 := by simpa using h
 rw [if_neg (by omega), if_neg (by omega)]
 refine ite_ok (fun h => ⟨?_, F12⟩) fun h => ?_
 ·have h : ((deep s : Nat) : Int) > 40 := of_decide_eq_true h
  rw [if_pos (by omega)]
  rfl
 have h : ¬ ((deep s : Nat) : Int) > 40 := of_decide_eq_false h
 rw [if_neg (by omega)]
 refine (B1.fr F2 (fun h => h)).ldV (callB_ok (sall_ok (M := 1000) (p := fits) ⟨_, rfl, resFits, fun x hx _ _ _ _ _ _ hv => sfits_ok @hN hv (by obtain ⟨_, _, _, _, ps⟩ := x; rw [size_mk] at hx; have := sizes_len ps; show ps.length ≤ 1000; omega)⟩ (size s) s (Nat.le_refl _) (by omega) (hv.fr F12)) fun w3 F3 => ?_)
 rw [allS_fits]
 cases hf : allFit s with
 | true => exact ite_no rfl ⟨rfl, F12.tr F3⟩
 | false => exact ite_yes rfl ⟨rfl, F12.tr F3⟩
section
variable {s s' : Shape} {w : World} {k : Int} {o n : ByteArray} {ns ps : Sl} {k2 : Int} {o2 n2 : ByteArray} {ns2 ps2 : Sl}
theorem sSame_ok (hC : CheckC) (hS : SortedC) (hv : ShV w k o n ns ps s) (hv2 : ShV w k2 o2 n2 ns2 ps2 s') :
  AnsB 21 #[shArg k o n ns ps, shArg k2 o2 n2 ns2 ps2] w (same s s') := by
 apply c21
 unfold t21 shZ kfZ ld5mZ nw5Z caBZ caIZ ca5Z jnBZ
 refine new_ok fun w1 m10 hm10 hs1 B1 F1 => new_ok fun w2 m11 hm11 hs2 C2 F2 => ?_
 have B2 := B1.fr F2 (fun h => h)
 change Blk w2 m10 _ (shCells k o n ns ps) at B2
 change Blk w2 m11 _ (shCells k2 o2 n2 ns2 ps2) at C2
 have F12 := F1.tr F2
 clear B1
 have fB : ∀ w', Fr noB w2 w' → Held w' (⟨m10, 0, none⟩, [.int .i64 k, .string o, .string n, .slice ns.a ns.n ns.c, .slice ps.a ps.n ps.c]) := fun w' F => (B2.fr F (fun h => h)).heldV
 have fC : ∀ w', Fr noB w2 w' → Held w' (⟨m11, 0, none⟩, [.int .i64 k2, .string o2, .string n2, .slice ns2.a ns2.n ns2.c, .slice ps2.a ps2.n ps2.c]) := fun w' F => (C2.fr F (fun h => h)).heldV
 have hsp : same s s' = (check s == 0 && check s' == 0 && eqS (sortS s) (sortS s')) := rfl
 refine join1_ok (c := .bool) (fun (b : Bool) w' => b = same s s' ∧ Fr noB w w') (fun kj hkj => drew_ok fun w2' F2' z2' => ?_) (fun b w' h => done_b h)
 have G2 := F12.tr F2'
 refine (B2.fr F2' (fun h => h)).ldV (callI_ok (hC (hv.fr G2)) fun w3 F3 => ?_)
 have G3 := G2.tr F3
 have H3 := F2'.tr F3
 refine ite_ok (fun h1 => ?_) fun h1 => hkj _ _ ⟨?_, G3⟩
 ·have h1 : check s = 0 := nat0 h1
  refine (C2.fr H3 (fun h => h)).ldV (callI_ok (hC (hv2.fr G3)) fun w4 F4 => ?_)
  have G4 := G3.tr F4
  have H4 := H3.tr F4
  refine Stay.go (w := w2) (by repeat (first | exact Stay.nil | refine Stay.cons (by assumption) ?_)) H4 ?_
  refine ite_ok (fun h2 => ?_) fun h2 => hkj _ _ ⟨?_, G4⟩
  ·have h2 : check s' = 0 := nat0 h2
   obtain ⟨za, _, fa⟩ := check_ok.1 h1
   obtain ⟨zb, _, fb⟩ := check_ok.1 h2
   refine (B2.fr H4 (fun h => h)).ldV ((C2.fr H4 (fun h => h)).ldV (callSort_ok (hS s (by omega) fa (hv.fr G4)) fun k3 o3 n3 ns3 ps3 w5 F5 hs5 => ?_))
   refine Stay.go (w := w2) (by repeat (first | exact Stay.nil | refine Stay.cons (by assumption) ?_)) (H4.tr F5) ?_
   refine callSort_ok (hS s' (by omega) fb (hv2.fr (G4.tr F5))) fun k4 o4 n4 ns4 ps4 w6 F6 hs6 => ?_
   have G6 := (G4.tr F5).tr F6
   have H6 := (H4.tr F5).tr F6
   refine Stay.go (w := w2) (by repeat (first | exact Stay.nil | refine Stay.cons (by assumption) ?_)) H6 ?_
   refine callB_ok (sequal_ok (size (sortS s)) (sortS s) (sortS s') (Nat.le_refl _) (hs5 w6 (F6.mono fun _ _ h => h.elim)) (hs6 w6 (Fr.refl _ _))) fun w7 F7 => ?_
   refine Stay.go (w := w2) (by repeat (first | exact Stay.nil | refine Stay.cons (by assumption) ?_)) (H6.tr F7) (hkj _ _ ⟨?_, G6.tr F7⟩)
   rw [hsp, h1, h2]
   rfl
  ·have h2 : (check s' == 0) = false := by
    rw [beq_eq_false_iff_ne]
    intro e
    rw [e] at h2
    cases h2
   rw [hsp, h2, Bool.and_false]
   rfl
 ·have h1 : (check s == 0) = false := by
   rw [beq_eq_false_iff_ne]
   intro e
   rw [e] at h1
   cases h1
  rw [hsp, h1]
  rfl
end
theorem sBelow_ok (hC : CheckC) (hU : BelowC) {s s' : Shape} {w : World} {k : Int} {o n : ByteArray} {ns ps : Sl} {k2 : Int} {o2 n2 : ByteArray} {ns2 ps2 : Sl} (hv : ShV w k o n ns ps s) (hv2 : ShV w k2 o2 n2 ns2 ps2 s') :
  AnsB 19 #[shArg k o n ns ps, shArg k2 o2 n2 ns2 ps2] w (isBelow s s') := by
 apply c19
 unfold t19 shZ ld5mZ nw5Z caBZ caIZ jnBZ
 refine new_ok fun w1 m10 hm10 hs1 B1 F1 => new_ok fun w2 m11 hm11 hs2 C2 F2 => ?_
 have B2 := B1.fr F2 (fun h => h)
 change Blk w2 m10 _ (shCells k o n ns ps) at B2
 change Blk w2 m11 _ (shCells k2 o2 n2 ns2 ps2) at C2
 have F12 := F1.tr F2
 clear B1
 refine join1_ok (c := .bool) (fun (b : Bool) w' => b = isBelow s s' ∧ Fr noB w w') (fun kj hkj => ?_) (fun b w' h => done_b h)
 refine B2.ldV (callI_ok (hC (hv.fr F12)) fun w3 F3 => ?_)
 have hsp : isBelow s s' = (check s == 0 && check s' == 0 && below s s') := rfl
 refine ite_ok (fun h1 => ?_) fun h1 => hkj _ _ ⟨?_, F12.tr F3⟩
 ·have h1 : check s = 0 := nat0 h1
  refine (C2.fr F3 (fun h => h)).ldV (callI_ok (hC (hv2.fr (F12.tr F3))) fun w4 F4 => ?_)
  have F14 := (F12.tr F3).tr F4
  refine ite_ok (fun h2 => ?_) fun h2 => hkj _ _ ⟨?_, F14⟩
  ·have h2 : check s' = 0 := nat0 h2
   obtain ⟨_, _, fa⟩ := check_ok.1 h1
   obtain ⟨_, _, fb⟩ := check_ok.1 h2
   refine (B2.fr (F3.tr F4) (fun h => h)).ldV ((C2.fr (F3.tr F4) (fun h => h)).ldV (callB_ok (hU (max (deep s) (deep s')) s s' (Nat.le_max_left _ _) (Nat.le_max_right _ _) fa fb (hv.fr F14) (hv2.fr F14)) fun w5 F5 => hkj _ _ ⟨?_, F14.tr F5⟩))
   rw [hsp, h1, h2]
   rfl
  ·have h2 : (check s' == 0) = false := by
    rw [beq_eq_false_iff_ne]
    intro e
    rw [e] at h2
    cases h2
   rw [hsp, h2, Bool.and_false]
   rfl
 ·have h1 : (check s == 0) = false := by
   rw [beq_eq_false_iff_ne]
   intro e
   rw [e] at h1
   cases h1
  rw [hsp, h1]
  rfl
section
variable {s s' : Shape} {w : World} {k : Int} {o n : ByteArray} {ns ps : Sl} {k2 : Int} {o2 n2 : ByteArray} {ns2 ps2 : Sl}
theorem sRank_ok (hC : CheckC) (hS : SortedC) (hU : BelowC) (hG : NearC) (hv : ShV w k o n ns ps s) (hv2 : ShV w k2 o2 n2 ns2 ps2 s') :
  Calls Tryz.prog 9 #[shArg k o n ns ps, shArg k2 o2 n2 ns2 ps2] w fun e w' => e = .returned (.int .i64 ((rank s s' : Nat) : Int)) ∧ Fr noB w w' := by
 apply c9
 unfold t9 ivZ shZ ld5mZ nw5Z caBZ jn0Z
 refine new_ok fun w1 m10 hm10 hs1 B1 F1 => new_ok fun w2 m11 hm11 hs2 C2 F2 => ?_
 have B2 := B1.fr F2 (fun h => h)
 change Blk w2 m10 _ (shCells k o n ns ps) at B2
 change Blk w2 m11 _ (shCells k2 o2 n2 ns2 ps2) at C2
 have F12 := F1.tr F2
 clear B1
 have hr : rank s s' = if same s s' then 3 else if isBelow s s' then 2 else if isNear s s' then 1 else 0 := rfl
 refine join_in (vs := []) ?_
 refine B2.ldV (C2.ldV (callB_ok (sSame_ok hC hS (hv.fr F12) (hv2.fr F12)) fun w3 F3 => ite_ok (fun h => ⟨by rw [hr, h]; rfl, F12.tr F3⟩) fun h1 => ?_))
 refine (B2.fr F3 (fun h => h)).ldV ((C2.fr F3 (fun h => h)).ldV (callB_ok (sBelow_ok hC hU (hv.fr (F12.tr F3)) (hv2.fr (F12.tr F3))) fun w4 F4 => ite_ok (fun h => ⟨by rw [hr, h1, h]; rfl, (F12.tr F3).tr F4⟩) fun h2 => ?_))
 have G4 := (F12.tr F3).tr F4
 have H4 := F3.tr F4
 refine (B2.fr H4 (fun h => h)).ldV ((C2.fr H4 (fun h => h)).ldV (callB_ok (hG (hv.fr G4) (hv2.fr G4)) fun w5 F5 => ite_ok (fun h => ⟨by rw [hr, h1, h2, h]; rfl, G4.tr F5⟩) fun h3 => ⟨by rw [hr, h1, h2, h3]; rfl, G4.tr F5⟩))
end
end Go.Proofs.YticokfpaoiekgaaGreatDoor
end
section
namespace Go.Shp
open Go.Lex
theorem near_rec {f : Shape → Shape → Bool} {nsA nsB : List B} {psA psB : List Shape} (hla : nsA.length = psA.length) (hlb : nsB.length = psB.length) (hA : nsA.Nodup) (hB : nsB.Nodup) :
  ((∀ (i : Nat) (x : B) (p q : Shape), nsA[i]? = some x → psA[i]? = some p → find nsB psB x = some q → f p q = true) ∧ ∀ x ∈ nsB, (find nsA psA x).isSome = true) ↔ withinF (fun x y => f y x) nsB psB nsA psA = true := by
 rw [withinF_iff]
 constructor
 ·rintro ⟨h1, h2⟩ i n p hn hp
  obtain ⟨q, hq⟩ := Option.isSome_iff_exists.1 (h2 n (List.mem_of_getElem? hn))
  obtain ⟨j, hj1, hj2⟩ := (find_iff hA).1 hq
  exact ⟨q, hq, h1 j n q p hj1 hj2 ((find_iff hB).2 ⟨i, hn, hp⟩)⟩
 ·intro h
  refine ⟨fun i x p q hx hp hq => ?_, fun x hx => ?_⟩
  ·obtain ⟨j, hj1, hj2⟩ := (find_iff hB).1 hq
   obtain ⟨r, hr, hf⟩ := h j x q hj1 hj2
   rw [(find_iff hA).2 ⟨i, hx, hp⟩] at hr
   cases hr
   exact hf
  ·obtain ⟨j, hj⟩ := List.mem_iff_getElem?.1 hx
   have hjl := (List.getElem?_eq_some_iff.1 hj).1
   obtain ⟨q, hq, _⟩ := h j x _ hj (List.getElem?_eq_getElem (show j < psB.length by omega))
   rw [hq]
   rfl
end Go.Shp
namespace Go.Proofs.YticokfpaoiekgaaGreatDoor
open Go.Lift Go.Lex Go.Shp
theorem indexT_ok {w : World} {l0 : Sl} {L : List B} (x : ByteArray) (hL : RdS w l0 (L.map bs)) (hl : L.length < 4611686018427387904) :
  Calls Tryz.prog 99 #[.slice l0.a l0.n l0.c, .string x] w fun e w' => ∃ n : Int, e = .returned (.int .i64 n) ∧ Fr noB w w' ∧ ((n = -1 ∧ ∀ j : Nat, L[j]? ≠ some (bl x)) ∨ ∃ i : Nat, n = (i : Int) ∧ L[i]? = some (bl x) ∧ ∀ j, j < i → L[j]? ≠ some (bl x)) := by
 have hnn := hL.1
 rw [List.length_map] at hnn
 apply c99
 unfold t99 wrZ ivZ ldSZ jn0Z lpIZ ixZ
 refine join0_ok (fun w' => (∀ j : Nat, L[j]? ≠ some (bl x)) ∧ Fr noB w w') (fun kend hkend => ?_) (fun w' ⟨h, F⟩ => ⟨-1, rfl, F, .inl ⟨rfl, h⟩⟩)
 refine countL_ok L.length (by omega) (fun i w' => (∀ j, j < i → L[j]? ≠ some (bl x)) ∧ Fr noB w w') (fun rec i w1 hi hI hrec => ?_) ⟨fun j h => by omega, Fr.refl _ _⟩
 obtain ⟨hdone, F1⟩ := hI
 refine ite_ok (fun hlt => ?_) fun hge => hkend _ ⟨fun j h => ?_, F1⟩
 ·have hlt : (i : Int) < (l0.n : Int) := of_decide_eq_true hlt
  obtain ⟨y, hy⟩ : ∃ y, L[i]? = some y := ⟨_, List.getElem?_eq_getElem (by omega)⟩
  refine join_in (vs := []) (str_ld (hL.fr F1) hy ?_)
  rw [eq_bl, bl_bs]
  refine ite_ok (fun h => ⟨(i : Int), rfl, F1, .inr ⟨i, rfl, by rw [hy, beq_iff_eq.1 h], hdone⟩⟩) fun h => hrec (by omega) _ ⟨fun j hj => ?_, F1⟩
  rcases Nat.lt_succ_iff_lt_or_eq.1 hj with hj | rfl
  ·exact hdone j hj
  ·rw [hy]
   intro e
   cases e
   simp at h
 ·have hge : ¬ (i : Int) < (l0.n : Int) := of_decide_eq_false hge
  have := (List.getElem?_eq_some_iff.1 h).1
  exact hdone j (by omega) h
def PtrP (w0 w : World) (r : Option Shape) (e : Ending) (w' : World) : Prop := ∃ p : Option Addr, e = .returned (.pointer p) ∧ Fr noB w w' ∧ p.isNone = r.isNone ∧ ∀ q, r = some q → ∃ (g off : Nat) (k : Int) (o n : ByteArray) (ns ps : Sl), p = some ⟨g, off, none⟩ ∧ w0.cell? ⟨g, off, none⟩ = some (.int .i64 k) ∧ w0.cell? ⟨g, off + 1, none⟩ = some (.string o) ∧ w0.cell? ⟨g, off + 2, none⟩ = some (.string n) ∧
   w0.cell? ⟨g, off + 3, none⟩ = some (.slice ns.a ns.n ns.c) ∧ w0.cell? ⟨g, off + 4, none⟩ = some (.slice ps.a ps.n ps.c) ∧ ShV w0 k o n ns ps q
theorem gfind_ok {w0 w : World} {k : Int} {o n : ByteArray} {ns ps : Sl} {s : Shape} (x : ByteArray) (hv : ShV w0 k o n ns ps s) (F0 : Fr noB w0 w) (hlen : s.names.length = s.parts.length) : Calls Tryz.prog 73 #[shArg k o n ns ps, .string x] w (PtrP w0 w (find s.names s.parts (bl x))) := by
 obtain ⟨_, _, _, ⟨hns, hnl, hpn, hpl, _⟩, hps⟩ := hv.parts
 apply c73
 unfold t73 tvZ svZ ldLZ nw5Z caIZ ixZ
 refine new_ok fun w1 m6 hm6 hs1 B1 F1 => ?_
 change Blk w1 m6 _ (shCells k o n ns ps) at B1
 refine B1.ldS (o := 3) rfl (call_ok (indexT_ok x (hns.fr (F0.tr F1)) hnl) ?_)
 rintro e w2 ⟨i, rfl, F2, hi⟩
 refine ⟨((i, ()), ()), rfl, ?_⟩
 show iteG _ _ _ _ _
 rcases hi with ⟨rfl, hno⟩ | ⟨i, rfl, hi, hfst⟩
 ·refine ite_no rfl ⟨none, rfl, F1.tr F2, ?_, fun q hq => ?_⟩
  ·rw [find_le hno]
   rfl
  ·rw [find_le hno] at hq
   cases hq
 ·have hil := (List.getElem?_eq_some_iff.1 hi).1
  obtain ⟨q, hq⟩ : ∃ q, s.parts[i]? = some q := ⟨_, List.getElem?_eq_getElem (by omega)⟩
  have hf := find_first hfst hi hq
  obtain ⟨g, off, k1, o1, n1, ns1, ps1, ha, c0, c1, c2, c3, c4, hv1⟩ := hps.at hq
  rw [Nat.zero_add] at c0 c1 c2 c3 c4
  refine ite_yes (decide_eq_true (by omega)) ((B1.fr F2 (fun h => h)).ldS (o := 4) rfl ?_)
  rw [ha]
  refine idxB_ok (n := ps.n) (i := i) (by omega) ⟨some ⟨g, off + i * 5, none⟩, rfl, F1.tr F2, by rw [hf]; rfl, fun q' hq' => ?_⟩
  rw [hf] at hq'
  cases hq'
  exact ⟨g, off + i * 5, k1, o1, n1, ns1, ps1, rfl, c0, c1, c2, c3, c4, hv1⟩
theorem ptr_ld {R : Ending → World → Prop} {w0 w : World} {g off : Nat} {k : Int} {o n : ByteArray} {ns ps : Sl} (F : Fr noB w0 w) (c0 : w0.cell? ⟨g, off, none⟩ = some (.int .i64 k)) (c1 : w0.cell? ⟨g, off + 1, none⟩ = some (.string o)) (c2 : w0.cell? ⟨g, off + 2, none⟩ = some (.string n))
  (c3 : w0.cell? ⟨g, off + 3, none⟩ = some (.slice ns.a ns.n ns.c)) (c4 : w0.cell? ⟨g, off + 4, none⟩ = some (.slice ps.a ps.n ps.c)) {K : Int → ByteArray → ByteArray → Sl → Sl → G} (h : K k o n ns ps R w) :
  ldG (.int .i64) (Addr.add ⟨g, off, none⟩ 0) (fun (k : Int) => ldG .str (Addr.add ⟨g, off, none⟩ 1) (fun (o : ByteArray) => ldG .str (Addr.add ⟨g, off, none⟩ 2) (fun (n : ByteArray) => ldG .slice (Addr.add ⟨g, off, none⟩ 3) (fun (ns : Sl) => ldG .slice (Addr.add ⟨g, off, none⟩ 4) (fun (ps : Sl) => K k o n ns ps))))) R w := by
 simp only [Addr.add_lit, Nat.add_zero]
 exact ld_ok (c := .int .i64) (F.cell c0 fun h => h) (ld_ok (c := .str) (F.cell c1 fun h => h) (ld_ok (c := .str) (F.cell c2 fun h => h) (ld_ok (c := .slice) (x := ns) (F.cell c3 fun h => h) (ld_ok (c := .slice) (x := ps) (F.cell c4 fun h => h) h))))
theorem loose1_ok {w : World} {k : Int} {o n : ByteArray} {ns ps : Sl} {k2 : Int} {o2 n2 : ByteArray} {ns2 ps2 : Sl} {b : Bool} : AnsB 72 #[shArg k o n ns ps, shArg k2 o2 n2 ns2 ps2, .bool b] w (b == (k == 6)) := by
 apply c72
 unfold t72 ldIZ nw5Z
 refine new_ok fun w1 m11 hm hs1 B1 F1 => new_ok fun w2 m12 hm2 hs2 B2 F2 => ?_
 refine (B1.fr F2 fun h => h).ld (c := .int .i64) (x := k) (o := 0) rfl ⟨rfl, F1.tr F2⟩
theorem resLoose1 : (resOf Tryz.prog 72).isSome = true := by kernel_rfl
theorem loose_ok {w : World} : Calls Tryz.prog 42 #[] w fun e w' => ∃ r, e = .returned (.pointer (some ⟨r, 0, none⟩)) ∧ w'.cell? ⟨r, 0, none⟩ = some (.func (.func 72) #[] #[]) ∧ Fr noB w w' := by
 apply c42
 unfold t42 nwZ
 exact new_ok fun w1 m hm hs1 B1 F1 => ⟨m, rfl, B1.cell rfl, F1⟩
theorem lacks1_ok {w0 w : World} {g off : Nat} {k : Int} {o n : ByteArray} {ns ps : Sl} {s : Shape} (x : ByteArray) (hv : ShV w0 k o n ns ps s) (F0 : Fr noB w0 w) (hlen : s.names.length = s.parts.length)
  (c0 : w0.cell? ⟨g, off, none⟩ = some (.int .i64 k)) (c1 : w0.cell? ⟨g, off + 1, none⟩ = some (.string o)) (c2 : w0.cell? ⟨g, off + 2, none⟩ = some (.string n))
  (c3 : w0.cell? ⟨g, off + 3, none⟩ = some (.slice ns.a ns.n ns.c)) (c4 : w0.cell? ⟨g, off + 4, none⟩ = some (.slice ps.a ps.n ps.c)) :
  AnsB 75 #[.string x, .pointer (some ⟨g, off, none⟩)] w (find s.names s.parts (bl x)).isNone := by
 apply c75
 unfold t75 tvZ shZ ld5xZ caZ
 refine ptr_ld F0 c0 c1 c2 c3 c4 (call_ok (gfind_ok x hv F0 hlen) ?_)
 rintro e w2 ⟨p, rfl, F2, hp, _⟩
 exact ⟨((p, ()), ()), rfl, by rw [← hp], F2⟩
theorem resLacks1 : (resOf Tryz.prog 75).isSome = true := by kernel_rfl
theorem containsT_ok {w : World} {l0 : Sl} {L : List B} {f : FuncId} {c : Array Value} {p : B → Bool} (hL : RdS w l0 (L.map bs)) (hl : L.length < 4611686018427387904) (hr : (resOf Tryz.prog f).isSome = true)
  (hf : ∀ x ∈ L, ∀ w1, Fr noB w w1 → AnsB f (#[.string (bs x)] ++ c) w1 (p x)) :
  AnsB 74 #[.slice l0.a l0.n l0.c, .func (.func f) #[] c] w (L.any p) := by
 have hnn := hL.1
 rw [List.length_map] at hnn
 have key : Calls Tryz.prog 100 #[.slice l0.a l0.n l0.c, .func (.func f) #[] c] w fun e w' => ∃ n : Int, e = .returned (.int .i64 n) ∧ decide (n ≥ 0) = L.any p ∧ Fr noB w w' := by
  apply c100
  unfold t100 wrZ ivZ tvZ ldSZ jn0Z lpIZ ixZ
  refine join0_ok (fun w' => L.any p = false ∧ Fr noB w w') (fun kend hkend => ?_) (fun w' ⟨h, F⟩ => ⟨-1, rfl, by rw [h]; rfl, F⟩)
  refine countL_ok L.length (by omega) (fun i w' => (∀ (j : Nat) s, j < i → L[j]? = some s → p s = false) ∧ Fr noB w w') (fun rec i w1 hi hI hrec => ?_) ⟨fun j s h => by omega, Fr.refl _ _⟩
  obtain ⟨hdone, F1⟩ := hI
  refine ite_ok (fun hlt => ?_) fun hge => hkend _ ⟨?_, F1⟩
  ·have hlt : (i : Int) < (l0.n : Int) := of_decide_eq_true hlt
   obtain ⟨s, hs⟩ : ∃ s, L[i]? = some s := ⟨_, List.getElem?_eq_getElem (by omega)⟩
   have hm := List.mem_of_getElem? hs
   refine join_in (vs := []) (str_ld (hL.fr F1) hs ⟨f, #[], c, rfl, hr, ?_⟩)
   rw [Array.empty_append]
   refine (hf s hm w1 F1).mono fun e w2 ⟨he, F2⟩ => .inl ⟨((p s, ()), ()), he, ?_⟩
   refine ite_ok (fun hp => ⟨(i : Int), rfl, ?_, F1.tr F2⟩) fun hp => hrec (by omega) _ ⟨fun j x hj hx => ?_, F1.tr F2⟩
   ·rw [decide_eq_true (by omega)]
    exact (List.any_eq_true.2 ⟨s, hm, hp⟩).symm
   ·rcases Nat.lt_succ_iff_lt_or_eq.1 hj with hj | rfl
    ·exact hdone j x hj hx
    ·rw [hs] at hx
     cases hx
     exact hp
  ·have hge : ¬ (i : Int) < (l0.n : Int) := of_decide_eq_false hge
   rw [List.any_eq_false]
   intro s hs
   obtain ⟨j, hj⟩ := List.mem_iff_getElem?.1 hs
   have := (List.getElem?_eq_some_iff.1 hj).1
   rw [hdone j s (by omega) hj]
   exact Bool.false_ne_true
 apply c74
 unfold t74 svZ caIZ
 refine call_ok key ?_
 rintro e w' ⟨n, rfl, hn, F⟩
 exact ⟨((n, ()), ()), rfl, by rw [← hn], F⟩
end Go.Proofs.YticokfpaoiekgaaGreatDoor
end
section
set_option maxRecDepth 100000
namespace Go.Proofs.YticokfpaoiekgaaGreatDoor
open Go.Lift
variable {R : Ending → World → Prop} {w : World}
def t88 : Int → ByteArray → ByteArray → Sl → Sl → Int → Value → G := fun n0 s1 s2 l3 l4 n5 v6 => nw5Z n0 s1 s2 l3 l4 25 fun m7 => callVG Tryz.prog v6 #[] [] (ldLZ ⟨m7, 4, none⟩ fun l8 => jnIZ (fun k9 => lpIIZ (fun k10 n11 n12 => iteG
 (decide (n12 < (l8.n : Int))) (jnIZ (fun k13 => ixZ l8 n12 5 fun a14 => ld5xZ a14 fun n15 s16 s17 l18 l19 => nz5Z 25 fun m20 => st5Z m20 n15 s16 s17 l18 l19 (ld5mZ m20 fun n21 s22 s23 l24 l25 => caIZ 88 #[shZ n21 s22 s23 l24 l25, ivZ (wrZ
 (n5 + 1)), v6] fun n26 => k13 (if n26 > n11 then n26 else n11))) fun n27 => k10 n27 (wrZ (n12 + 1))) (k9 n11)) n5 0) fun n28 => retG (ivZ n28))
theorem e88 : denF Tryz.prog (GA Tryz.prog) Tryz.f88 [(.agg [(.int .i64), .str, .str, .slice, .slice]), (.one (.int .i64)), (.one .any)] (.seq .leaf (.seq .leaf (.seq .leaf (.seq (.seq .leaf (.block (sl Tryz.prog [(7, 3)]) (.loop (sl Tryz.prog [(7, 3), (16, 3)]) (.seq .leaf (.seq .leaf (.seq (.block (sl Tryz.prog [(7, 3)]) .leaf) .leaf)))))) .leaf)))) = t88 := by kernel_rfl
theorem c88 (x0 : Int)(x1 : ByteArray)(x2 : ByteArray)(x3 : Sl)(x4 : Sl)(x5 : Int)(x6 : Value) (h : t88 x0 x1 x2 x3 x4 x5 x6 R w) : Calls Tryz.prog 88 #[.agg #[.int .i64 x0, .string x1, .string x2, .slice x3.a x3.n x3.c, .slice x4.a x4.n x4.c], .int .i64 x5, x6] w R := lift mixed Tryz.func88 e88 rfl ((x0, x1, x2, x3, x4, ()), (x5, ()), (x6, ()), ()) R w h
def t89 : Addr → G := fun a0 => ldIZ a0 fun n1 => stG a0 (ivZ (wrZ (n1 + 1))) (ldIZ a0 fun n2 => jn0Z (fun k3 => iteG (decide (n2 > 400)) (panicG (.iface 102 (.agg #[]))) k3) (retG (.tuple #[])))
theorem e89 : denF Tryz.prog (GA Tryz.prog) Tryz.f89 [(.one .addr)] (.seq .leaf (.seq .leaf (.condj (sl Tryz.prog []) .leaf .leaf))) = t89 := by kernel_rfl
theorem c89 (x0 : Addr) (h : t89 x0 R w) : Calls Tryz.prog 89 #[.pointer (some x0)] w R := lift mixed Tryz.func89 e89 rfl ((x0, ()), ()) R w h
def t94 : Int → ByteArray → ByteArray → Sl → Sl → G := fun n0 s1 s2 l3 l4 => nw5Z n0 s1 s2 l3 l4 25 fun m5 => ldLZ ⟨m5, 3, none⟩ fun l6 => opG Tryz.prog (Instr.makeMap 105 (some (.int .i64 (l6.n : Int)))) (.one .map) fun (r7 : Option Nat)
 => ldLZ ⟨m5, 3, none⟩ fun l8 => jn0Z (fun k9 => lpIZ (fun k10 n11 => iteG (decide (n11 < (l8.n : Int))) (jn0Z (fun k12 => ixZ l8 n11 1 fun a13 => ldSZ a13 fun s14 => opUG Tryz.prog (Instr.mapUpdate 105 (.map r7) (.string s14) (.int .i64
 n11)) k12) (k10 (wrZ (n11 + 1)))) k9) 0) (retG (.map r7))
theorem e94 : denF Tryz.prog (GA Tryz.prog) Tryz.f94 [(.agg [(.int .i64), .str, .str, .slice, .slice])] (.seq .leaf (.seq .leaf (.seq (.seq .leaf (.block (sl Tryz.prog []) (.loop (sl Tryz.prog [(13, 3)]) (.seq .leaf (.seq .leaf (.seq (.block (sl Tryz.prog []) .leaf) .leaf)))))) .leaf))) = t94 := by kernel_rfl
theorem c94 (x0 : Int)(x1 : ByteArray)(x2 : ByteArray)(x3 : Sl)(x4 : Sl) (h : t94 x0 x1 x2 x3 x4 R w) : Calls Tryz.prog 94 #[.agg #[.int .i64 x0, .string x1, .string x2, .slice x3.a x3.n x3.c, .slice x4.a x4.n x4.c]] w R := lift mixed Tryz.func94 e94 rfl ((x0, x1, x2, x3, x4, ()), ()) R w h
def t63 : Int → ByteArray → ByteArray → Sl → Sl → Int → ByteArray → ByteArray → Sl → Sl → Value → G := fun n0 s1 s2 l3 l4 n5 s6 s7 l8 l9 v10 => nw5Z n0 s1 s2 l3 l4 25 fun m11 => nw5Z n5 s6 s7 l8 l9 25 fun m12 => ld5mZ m12 fun n13 s14 s15
 l16 l17 => caZ 94 #[shZ n13 s14 s15 l16 l17] [(.one .map)] fun (r18 : Option Nat) => ldLZ ⟨m11, 3, none⟩ fun l19 => jn0Z (fun k20 => lpIZ (fun k21 n22 => iteG (decide (n22 < (l19.n : Int))) (jn0Z (fun k23 => ixZ l19 n22 1 fun a24 => ldSZ
 a24 fun s25 => opVG Tryz.prog (Instr.lookup 105 (.map r18) (.string s25) true) [(.one (.int .i64)), (.one .bool)] fun (n26 : Int) (b27 : Bool) => jnBZ (fun k28 => drewG (iteG (!b27) (k28 true) (ldLZ ⟨m11, 4, none⟩ fun l29 => ixZ l29 n22 5
 fun a30 => ld5xZ a30 fun n31 s32 s33 l34 l35 => ldLZ ⟨m12, 4, none⟩ fun l36 => ixZ l36 n26 5 fun a37 => ld5xZ a37 fun n38 s39 s40 l41 l42 => callVG Tryz.prog v10 #[shZ n31 s32 s33 l34 l35, shZ n38 s39 s40 l41 l42] [(.one .bool)] fun (b43 :
 Bool) => keepG [(⟨m12, 4, none⟩, [svZ l36]), (⟨m11, 4, none⟩, [svZ l29])] (k28 (!b43))))) fun b44 => iteG b44 (retG (.bool false)) k23) (k21 (wrZ (n22 + 1)))) k20) 0) (retG (.bool true))
theorem e63 : denF Tryz.prog (GA Tryz.prog) Tryz.f63 [(.agg [(.int .i64), .str, .str, .slice, .slice]), (.agg [(.int .i64), .str, .str, .slice, .slice]), (.one .any)] (.seq .leaf (.seq .leaf (.seq (.seq .leaf (.block (sl Tryz.prog []) (.loop (sl Tryz.prog [(17, 3)]) (.seq .leaf (.seq .leaf (.seq (.block (sl Tryz.prog []) (.seq .leaf (.seq .leaf (.seq (.r (sl Tryz.prog [(44, 4)])) .leaf)))) .leaf)))))) .leaf))) = t63 := by kernel_rfl
theorem c63 (x0 : Int)(x1 : ByteArray)(x2 : ByteArray)(x3 : Sl)(x4 : Sl)(x5 : Int)(x6 : ByteArray)(x7 : ByteArray)(x8 : Sl)(x9 : Sl)(x10 : Value) (h : t63 x0 x1 x2 x3 x4 x5 x6 x7 x8 x9 x10 R w) : Calls Tryz.prog 63 #[.agg #[.int .i64 x0, .string x1, .string x2, .slice x3.a x3.n x3.c, .slice x4.a x4.n x4.c], .agg #[.int .i64 x5, .string x6, .string x7, .slice x8.a x8.n x8.c, .slice x9.a x9.n x9.c], x10] w R := lift mixed Tryz.func63 e63 rfl ((x0, x1, x2, x3, x4, ()), (x5, x6, x7, x8, x9, ()), (x10, ()), ()) R w h
def t116 : Value → G := fun v0 => caLZ 153 #[v0] fun l1 => ca0Z 154 #[svZ l1] (retG (svZ l1))
theorem e116 : denF Tryz.prog (GA Tryz.prog) Tryz.f116 [(.one .any)] .leaf = t116 := by kernel_rfl
theorem c116 (x0 : Value) (h : t116 x0 R w) : Calls Tryz.prog 116 #[x0] w R := lift mixed Tryz.func116 e116 rfl ((x0, ()), ()) R w h
def t153 : Value → G := fun v0 => caLZ 190 #[(.slice none 0 0), v0] fun l1 => retG (svZ l1)
theorem e153 : denF Tryz.prog (GA Tryz.prog) Tryz.f153 [(.one .any)] .leaf = t153 := by kernel_rfl
theorem c153 (x0 : Value) (h : t153 x0 R w) : Calls Tryz.prog 153 #[x0] w R := lift mixed Tryz.func153 e153 rfl ((x0, ()), ()) R w h
def t117 : Sl → G := fun l0 => nwZ #[svZ l0] 22 fun m1 => retG (.func (Fn.func 155) #[] #[(.pointer (some ⟨m1, 0, none⟩))])
theorem e117 : denF Tryz.prog (GA Tryz.prog) Tryz.f117 [(.one .slice)] .leaf = t117 := by kernel_rfl
theorem c117 (x0 : Sl) (h : t117 x0 R w) : Calls Tryz.prog 117 #[.slice x0.a x0.n x0.c] w R := lift mixed Tryz.func117 e117 rfl ((x0, ()), ()) R w h
def t187 : Option Addr → ByteArray → ByteArray → Value → G := fun p0 s1 s2 v3 => caBZ 186 #[(.pointer p0), tvZ s2] fun b4 => iteG b4 (retG (.tuple #[])) (jn0Z (fun k5 => loopG [] fun k6 => caBZ 108 #[(.pointer p0)] fun b7 => iteG (!b7)
 (jn0Z (fun k8 => callVG Tryz.prog v3 #[] [] (caBZ 186 #[(.pointer p0), tvZ s2] fun b9 => iteG b9 (retG (.tuple #[])) (ca0Z 184 #[(.pointer p0), tvZ s1] k8))) k6) k5) (retG (.tuple #[])))
theorem e187 : denF Tryz.prog (GA Tryz.prog) Tryz.f187 [(.one .ptr), (.one .str), (.one .str), (.one .any)] (.seq .leaf (.block (sl Tryz.prog []) (.loop (sl Tryz.prog []) (.seq .leaf (.block (sl Tryz.prog []) .leaf))))) = t187 := by kernel_rfl
theorem c187 (x0 : Option Addr)(x1 : ByteArray)(x2 : ByteArray)(x3 : Value) (h : t187 x0 x1 x2 x3 R w) : Calls Tryz.prog 187 #[.pointer x0, .string x1, .string x2, x3] w R := lift mixed Tryz.func187 e187 rfl ((x0, ()), (x1, ()), (x2, ()), (x3, ()), ()) R w h
end Go.Proofs.YticokfpaoiekgaaGreatDoor
end
section
namespace Go.Prs
open Go.Lex
theorem peek_txt {l : List Tok} {p : Nat} (h : ∀ t ∈ l, t.text.length < 4611686018427387904) : (peek l p).text.length < 4611686018427387904 := by
 unfold peek
 cases h1 : l[p]? with
 | some t => exact h t (List.mem_of_getElem? h1)
 | none => cases h2 : l.getLast? <;> exact Nat.zero_lt_of_lt (show 0 < 4611686018427387904 by omega)
theorem take_txt {l : List Tok} {k : Nat} {s : PS} (h : ∀ t ∈ l, t.text.length < 4611686018427387904) : (take l k s).1.text.length < 4611686018427387904 := by
 unfold take
 split
 ·exact Nat.zero_lt_of_lt (show 0 < 4611686018427387904 by omega)
 ·exact peek_txt h
end Go.Prs
namespace Go.Proofs.YticokfpaoiekgaaGreatDoor
open Go.Lift Go.Lex Go.Shp Go.Prs
theorem shV_flat {w : World} {k : Int} {o n : ByteArray} (ho : o.size < 4611686018427387904) (hn : n.size < 4611686018427387904) : ShV w k o n ⟨none, 0, 0⟩ ⟨none, 0, 0⟩ (.mk k (bl o) (bl n) [] []) := by
 unfold ShV
 refine ⟨rfl, rfl, rfl, ⟨⟨rfl, fun k x h => by simp at h⟩, by simp, rfl, by simp, ho, hn, fun x h => by simp at h⟩, ?_⟩
 unfold ShL
 trivial
def ParP (w : World) (p : Nat) (sl : Sl) (l : List Tok) (s : Shape) (s' : PS) (e : Ending) (w' : World) : Prop := ∃ (k : Int) (o n : ByteArray) (ns ps : Sl), e = .returned (shArg k o n ns ps) ∧ Cur w' p sl l s' ∧ Fr (oneB p) w w' ∧ ∀ w'', Fr (fun b => b < w.heap.size) w' w'' → ShV w'' k o n ns ps s
theorem callPar_ok {R : Ending → World → Prop} {w : World} {p : Nat} {sl : Sl} {l : List Tok} {s : Shape} {s' : PS} {f : FuncId} {args : Array Value} (hc : Calls Tryz.prog f args w (ParP w p sl l s s')) {K : Int → ByteArray → ByteArray → Sl → Sl → G}
  (h : ∀ k o n ns ps w', Cur w' p sl l s' → Fr (oneB p) w w' → (∀ w'', Fr (fun b => b < w.heap.size) w' w'' → ShV w'' k o n ns ps s) → K k o n ns ps R w') : callG Tryz.prog f args [.agg [.int .i64, .str, .str, .slice, .slice]] K R w :=
 call_ok hc fun _ w' ⟨k, o, n, ns, ps, he, hc', F, hv⟩ => ⟨((k, o, n, ns, ps, ()), ()), he, h k o n ns ps w' hc' F hv⟩
def UpP (w : World) (s : Shape) (e : Ending) (w' : World) : Prop := ∃ (k : Int) (o n : ByteArray), e = .returned (shArg k o n ⟨none, 0, 0⟩ ⟨none, 0, 0⟩) ∧ Fr noB w w' ∧ ∀ w'', ShV w'' k o n ⟨none, 0, 0⟩ ⟨none, 0, 0⟩ s
theorem callUp_ok {R : Ending → World → Prop} {w : World} {s : Shape} {f : FuncId} {args : Array Value} (hc : Calls Tryz.prog f args w (UpP w s)) {K : Int → ByteArray → ByteArray → Sl → Sl → G}
  (h : ∀ k o n w', Fr noB w w' → (∀ w'', ShV w'' k o n ⟨none, 0, 0⟩ ⟨none, 0, 0⟩ s) → K k o n ⟨none, 0, 0⟩ ⟨none, 0, 0⟩ R w') : callG Tryz.prog f args [.agg [.int .i64, .str, .str, .slice, .slice]] K R w :=
 call_ok hc fun _ w' ⟨k, o, n, he, F, hv⟩ => ⟨((k, o, n, ⟨none, 0, 0⟩, ⟨none, 0, 0⟩, ()), ()), he, h k o n w' F hv⟩
def eB : ByteArray := ByteArray.mk #[]
theorem pupper_ok {w : World} (a b : ByteArray) (ha : a.size < 4611686018427387904) (hb : b.size < 4611686018427387904) : Calls Tryz.prog 183 #[.string a, .string b] w (UpP w (upperS (bl a) (bl b))) := by
 apply c183
 unfold t183 shZ ld5mZ st5Z nz5Z jn0Z
 refine new_ok fun w1 m2 hm2 hs1 B1 F1 => ?_
 have out : ∀ (k : Int) (o n : ByteArray) (s : Shape), o.size < 4611686018427387904 → n.size < 4611686018427387904 → s = .mk k (bl o) (bl n) [] [] → ∀ {kk : Int → ByteArray → ByteArray → Sl → Sl → G}, (∀ w', Fr noB w w' → kk k o n ⟨none, 0, 0⟩ ⟨none, 0, 0⟩ (UpP w s) w') →
   stG ⟨m2, 0, none⟩ (.int .i64 k) (stG ⟨m2, 1, none⟩ (.string o) (stG ⟨m2, 2, none⟩ (.string n) (stG ⟨m2, 3, none⟩ (.slice none 0 0) (stG ⟨m2, 4, none⟩ (.slice none 0 0) (ldG (.int .i64) ⟨m2, 0, none⟩ (fun (k : Int) => ldG .str ⟨m2, 1, none⟩ (fun (o : ByteArray) => ldG .str ⟨m2, 2, none⟩ (fun (n : ByteArray) => ldG .slice ⟨m2, 3, none⟩ (fun (ns : Sl) => ldG .slice ⟨m2, 4, none⟩ (fun (ps : Sl) => kk k o n ns ps)))))))))) (UpP w s) w1 := by
  intro k o n s _ _ _ kk hkk
  refine fill_ok B1 rfl rfl rfl rfl rfl rfl fun w2 B2 F2 => ?_
  change Blk w2 m2 _ (shCells k o n ⟨none, 0, 0⟩ ⟨none, 0, 0⟩) at B2
  exact B2.ldV (hkk w2 (F1.fill (by omega) F2))
 have fin : ∀ (k : Int) (o n : ByteArray) (s : Shape), o.size < 4611686018427387904 → n.size < 4611686018427387904 → s = .mk k (bl o) (bl n) [] [] → ∀ w', Fr noB w w' → (UpP w s) (.returned (shArg k o n ⟨none, 0, 0⟩ ⟨none, 0, 0⟩)) w' := by
  intro k o n s ho hn hs w' F
  exact ⟨k, o, n, rfl, F, fun w'' => by rw [hs]; exact shV_flat ho hn⟩
 have hbl : ∀ x : ByteArray, (bl x = []) = (bl x = bl eB) := fun _ => rfl
 generalize hS : upperS (bl a) (bl b) = S
 have z0 : eB.size < 4611686018427387904 := by decide
 refine join0_ok (fun w' => w' = w1 ∧ upperS (bl a) (bl b) = .mk 9 (bl a) (bl b) [] []) (fun kj hkj => ?_) ?_
 ·rw [eq_bl, show bl (ByteArray.mk #[]) = ([] : B) from rfl]
  refine ite_ok (fun h1 => join_in (vs := []) ?_) fun h1 => hkj _ ⟨rfl, ?_⟩
  rotate_left
  ·have h1 : ¬ bl a = [] := by simpa using h1
   unfold upperS
   rw [if_neg (fun h => h1 h.1), if_neg (fun h => h1 h.1), if_neg (fun h => h1 h.1), if_neg (fun h => h1 h.1)]
  have h1 : bl a = [] := by simpa using h1
  rw [eq_bl, show bl (ByteArray.mk #[(73 : UInt8), (110 : UInt8), (116 : UInt8)]) = [73, 110, 116] from rfl]
  refine ite_ok (fun h2 => out 1 eB eB S z0 z0 ?_ fun w' F => fin 1 eB eB S z0 z0 ?_ w' F) fun h2 => ?_
  ·rw [← hS]; unfold upperS; rw [if_pos ⟨h1, by simpa using h2⟩]; rfl
  ·rw [← hS]; unfold upperS; rw [if_pos ⟨h1, by simpa using h2⟩]; rfl
  have h2 : ¬ bl b = [73, 110, 116] := by simpa using h2
  rw [eq_bl, show bl (ByteArray.mk #[(66 : UInt8), (111 : UInt8), (111 : UInt8), (108 : UInt8)]) = [66, 111, 111, 108] from rfl]
  refine ite_ok (fun h3 => ?_) fun h3 => ?_
  ·have hs : S = .mk 2 (bl eB) (bl eB) [] [] := by rw [← hS]; unfold upperS; rw [if_neg (fun h => h2 h.2), if_pos ⟨h1, by simpa using h3⟩]; rfl
   exact out 2 eB eB S z0 z0 hs fun w' F => fin 2 eB eB S z0 z0 hs w' F
  have h3 : ¬ bl b = [66, 111, 111, 108] := by simpa using h3
  rw [eq_bl, show bl (ByteArray.mk #[(84 : UInt8), (101 : UInt8), (120 : UInt8), (116 : UInt8)]) = [84, 101, 120, 116] from rfl]
  refine ite_ok (fun h4 => ?_) fun h4 => ?_
  ·have hs : S = .mk 3 (bl eB) (bl eB) [] [] := by rw [← hS]; unfold upperS; rw [if_neg (fun h => h2 h.2), if_neg (fun h => h3 h.2), if_pos ⟨h1, by simpa using h4⟩]; rfl
   exact out 3 eB eB S z0 z0 hs fun w' F => fin 3 eB eB S z0 z0 hs w' F
  have h4 : ¬ bl b = [84, 101, 120, 116] := by simpa using h4
  rw [eq_bl, show bl (ByteArray.mk #[(65 : UInt8), (110 : UInt8), (121 : UInt8)]) = [65, 110, 121] from rfl]
  refine ite_ok (fun h5 => ?_) fun h5 => ?_
  ·have hs : S = .mk 4 (bl eB) (bl eB) [] [] := by rw [← hS]; unfold upperS; rw [if_neg (fun h => h2 h.2), if_neg (fun h => h3 h.2), if_neg (fun h => h4 h.2), if_pos ⟨h1, by simpa using h5⟩]; rfl
   exact out 4 eB eB S z0 z0 hs fun w' F => fin 4 eB eB S z0 z0 hs w' F
  have h5 : ¬ bl b = [65, 110, 121] := by simpa using h5
  refine hkj _ ⟨rfl, ?_⟩
  unfold upperS
  rw [if_neg (fun h => h2 h.2), if_neg (fun h => h3 h.2), if_neg (fun h => h4 h.2), if_neg (fun h => h5 h.2)]
 ·rintro w' ⟨rfl, hu⟩
  have hs : S = .mk 9 (bl a) (bl b) [] [] := by rw [← hS, hu]
  exact out 9 a b S ha hb hs fun w' F => fin 9 a b S ha hb hs w' F
theorem hasText_ok {w : World} {l0 : Sl} {L : List B} (x : ByteArray) (hL : RdS w l0 (L.map bs)) (hl : L.length < 4611686018427387904) : AnsB 204 #[.slice l0.a l0.n l0.c, .string x] w (decide (bl x ∈ L)) := by
 apply c204
 unfold t204 tvZ svZ caIZ
 refine call_ok (indexT_ok x hL hl) ?_
 rintro e w' ⟨n, rfl, F, h⟩
 refine ⟨((n, ()), ()), rfl, ?_, F⟩
 have : decide (n ≥ (0 : Int)) = decide (bl x ∈ L) := by
  refine decide_eq_decide.2 ?_
  rcases h with ⟨rfl, hno⟩ | ⟨i, rfl, hi, _⟩
  ·constructor
   ·intro h; omega
   ·intro h
    obtain ⟨j, hj⟩ := List.mem_iff_getElem?.1 h
    exact absurd hj (hno j)
  ·exact ⟨fun _ => List.mem_of_getElem? hi, fun _ => by omega⟩
 show Ending.returned (.bool (decide (n ≥ (0 : Int)))) = _
 rw [this]
theorem pfresh_ok {w : World} {p : Nat} {sl : Sl} {l : List Tok} {s : PS} (h : Cur w p sl l s) {ns : Sl} {names : List B} (hL : RdS w ns (names.map bs)) (hl : names.length < 4611686018427387904) (hR : ∀ w', Fr (oneB p) w w' → RdS w' ns (names.map bs)) :
  Calls Tryz.prog 181 #[.pointer (some ⟨p, 0, none⟩), .slice ns.a ns.n ns.c] w (StepP w p sl l (fresh l names s).2 (.string (bs (fresh l names s).1))) := by
 apply c181
 unfold t181 ivZ tvZ svZ ldIZ ldSZ nwZ ca0Z caBZ caZ jn0Z jnBZ
 refine callTok_ok (Y := fun w' => Cur w' p sl l (take l 1 s).2 ∧ Fr (oneB p) w w') (ptake_ok h 1 (by decide)) fun w1 ⟨h1, F1⟩ => ?_
 generalize htk : take l 1 s = tk at h1
 obtain ⟨t, s1⟩ := tk
 change Cur w1 p sl l s1 at h1
 have hF : fresh l names s = if s1.err = 0 ∧ t.text ∈ names then (t.text, fail 111 t.at' s1) else (t.text, s1) := by
  unfold fresh
  rw [htk]
 have hpw : p < w1.heap.size := h1.b.lt
 refine new_ok fun w2 m5 hm5 hs2 M2 F2 => fill3_ok M2 rfl rfl rfl rfl fun w3 M3 F3 => ?_
 have G3 : Fr noB w1 w3 := F2.fill (by omega) F3
 have h3 := h1.fr0 G3
 have N3 : Fr (oneB p) w w3 := st_fr F1 (G3.mono fun _ _ h => h.elim)
 change Blk w3 m5 _ (tokCells t) at M3
 refine join1_ok (c := .bool) (fun (b : Bool) w' => b = decide (s1.err = 0 ∧ t.text ∈ names) ∧ Fr noB w3 w') (fun kj hkj => callB_ok (pbad_ok h3) fun w4 F4 => ite_ok (fun hb => ?_) fun hb => hkj _ _ ⟨?_, F4⟩) ?_
 ·have hb : s1.err = 0 := by simpa using hb
  refine (M3.fr F4 (fun h => h)).ld (c := .str) (x := bs t.text) (o := 1) rfl (callB_ok (hasText_ok (bs t.text) (hR _ (st_fr N3 (F4.mono fun _ _ h => h.elim))) hl) fun w5 F5 => hkj _ _ ⟨?_, F4.tr F5⟩)
  rw [bl_bs]
  exact decide_eq_decide.2 ⟨fun h => ⟨hb, h⟩, fun h => h.2⟩
 ·have hb : ¬ s1.err = 0 := by simpa using hb
  rw [decide_eq_false (fun h => hb h.1)]
 rintro b w4 ⟨rfl, F4⟩
 have h4 := h3.fr0 F4
 have M4 := M3.fr F4 (fun h => h)
 have N4 : Fr (oneB p) w w4 := st_fr N3 (F4.mono fun _ _ h => h.elim)
 refine join0_ok (fun w' => Cur w' p sl l (fresh l names s).2 ∧ Fr (oneB p) w4 w') (fun kj hkj => ite_ok (fun hb => M4.ld (c := .int .i64) (x := (t.at' : Int)) (o := 2) rfl (call_ok (pfail_ok h4 111 t.at') ?_)) fun hb => hkj _ ⟨?_, Fr.refl _ _⟩) ?_
 ·rintro e w5 ⟨rfl, h5, F5⟩
  refine ⟨(), rfl, hkj _ ⟨?_, F5⟩⟩
  rw [hF, if_pos (of_decide_eq_true hb)]
  exact h5
 ·rw [hF, if_neg (of_decide_eq_false hb)]
  exact h4
 rintro w5 ⟨h5, F5⟩
 refine (M4.fr F5 (fun h => by change m5 = p at h; omega)).ld (c := .str) (x := bs t.text) (o := 1) rfl ⟨?_, h5, st_fr N4 F5⟩
 have : (fresh l names s).1 = t.text := by rw [hF]; split <;> rfl
 rw [this]
end Go.Proofs.YticokfpaoiekgaaGreatDoor
end
