/- The law behind: one part of its proof (joined by program out of my own texts). No condition. -/
import Derived.Test.YtngfnokbdcjoeaaGreatDoorVatAX
section
namespace Go.Proofs.YtngfnokbdcjoeaaGreatDoor
open Go.Lift Go.Lex Go.Shp Go.Tms
def FunTm (fv : Value) (P : Tm → Prop) (p : Tm → Bool) (w0 : World) : Prop := ∃ f cs, fv = .func (.func f) #[] cs ∧ (resOf Tryz.prog f).isSome = true ∧ ∀ w, Fr noB w0 w → ∀ (k : Int) (o : ByteArray) (n : ByteArray) (z : Int) (ns : Sl) (vs : Sl) (ss : Sl) (ps : Sl) (at1 : Int) (s : Tm), TmV w k o n z ns vs ss ps at1 s → P s → AnsB f (#[tmArg k o n z ns vs ss ps at1] ++ cs) w (p s)
theorem callFTm_ok {R : Ending → World → Prop} {w0 w : World} {P : Tm → Prop} {fv : Value} {p : Tm → Bool} (hq : FunTm fv P p w0) (F0 : Fr noB w0 w) {k : Int} {o : ByteArray} {n : ByteArray} {z : Int} {ns : Sl} {vs : Sl} {ss : Sl} {ps : Sl} {at1 : Int} {s : Tm} (hv : TmV w k o n z ns vs ss ps at1 s) (hp : P s) {K : Bool → G} (h : ∀ w', Fr noB w w' → K (p s) R w') : callVG Tryz.prog fv #[tmArg k o n z ns vs ss ps at1] [.one .bool] K R w := by
 obtain ⟨f, cs, rfl, hr, hc⟩ := hq
 refine ⟨f, #[], cs, rfl, hr, ?_⟩
 rw [Array.empty_append]
 exact (hc w F0 _ _ _ _ _ _ _ _ _ s hv hp).mono fun e w' ⟨he, F⟩ => .inl ⟨((p s, ()), ()), he, h w' F⟩
theorem containsTm_ok {w : World} {l0 : Sl} {L : List Tm} {fv : Value} {p : Tm → Bool} (hL : TmL w l0.a 0 L) (h0 : l0.n = L.length) (hl : L.length < 4611686018427387904) (hf : FunTm fv (· ∈ L) p w) :
  AnsB 145 #[.slice l0.a l0.n l0.c, fv] w (L.any p) := by
 have key : Calls Tryz.prog 174 #[.slice l0.a l0.n l0.c, fv] w fun e w' => ∃ n : Int, e = .returned (.int .i64 n) ∧ decide (n ≥ 0) = L.any p ∧ Fr noB w w' := by
  refine c174 l0 fv ?_
  unfold t174 wrZ ivZ tvZ svZ ldIZ ldSZ ldLZ jn0Z lpIZ ixZ
  refine join0_ok (fun w' => L.any p = false ∧ Fr noB w w') (fun kend hkend => ?_) (fun w' ⟨h, F⟩ => ⟨-1, rfl, by rw [h]; rfl, F⟩)
  refine countL_ok L.length (by omega) (fun i w' => (∀ (j : Nat) s, j < i → L[j]? = some s → p s = false) ∧ Fr noB w w') (fun rec i w1 hi hI hrec => ?_) ⟨fun j s h => by omega, Fr.refl _ _⟩
  obtain ⟨hdone, F1⟩ := hI
  refine ite_ok (fun hlt => ?_) fun hge => hkend _ ⟨?_, F1⟩
  ·have hlt : (i : Int) < (l0.n : Int) := of_decide_eq_true hlt
   obtain ⟨s, hs⟩ : ∃ s, L[i]? = some s := ⟨_, List.getElem?_eq_getElem (by omega)⟩
   have hm := List.mem_of_getElem? hs
   refine join_in (vs := []) (tmpart_ld0 hL F1 hs h0 fun k1 o1 n1 z1 ns1 vs1 ss1 ps1 at11 hv1 => callFTm_ok hf F1 (hv1.fr F1) hm fun w2 F2 => ?_)
   refine ite_ok (fun hp => ⟨(i : Int), rfl, ?_, F1.tr F2⟩) fun hp => hrec (by omega) _ ⟨fun j x hj hx => ?_, F1.tr F2⟩
   ·rw [decide_eq_true (by omega)]
    exact (List.any_eq_true.2 ⟨s, hm, hp⟩).symm
   ·rcases Nat.lt_succ_iff_lt_or_eq.1 hj with hj | rfl
    ·exact hdone j x hj hx
    ·rw [hs] at hx
     cases hx
     exact hp
  ·have hge : ¬ (i : Int) < (l0.n : Int) := of_decide_eq_false hge
   rw [List.any_eq_false]
   intro s hs
   obtain ⟨j, hj⟩ := List.mem_iff_getElem?.1 hs
   have := (List.getElem?_eq_some_iff.1 hj).1
   rw [hdone j s (by omega) hj]
   exact Bool.false_ne_true
 refine c145 l0 fv ?_
 unfold t145 svZ caIZ
 refine call_ok key ?_
 rintro e w' ⟨n, rfl, hn, F⟩
 exact ⟨((n, ()), ()), rfl, by rw [hn], F⟩
def FunSh (fv : Value) (P : Shape → Prop) (p : Shape → Bool) (w0 : World) : Prop := ∃ f cs, fv = .func (.func f) #[] cs ∧ (resOf Tryz.prog f).isSome = true ∧ ∀ w, Fr noB w0 w → ∀ (k : Int) (o : ByteArray) (n : ByteArray) (ns : Sl) (ps : Sl) (s : Shape), ShV w k o n ns ps s → P s → AnsB f (#[shArg k o n ns ps] ++ cs) w (p s)
theorem callFSh_ok {R : Ending → World → Prop} {w0 w : World} {P : Shape → Prop} {fv : Value} {p : Shape → Bool} (hq : FunSh fv P p w0) (F0 : Fr noB w0 w) {k : Int} {o : ByteArray} {n : ByteArray} {ns : Sl} {ps : Sl} {s : Shape} (hv : ShV w k o n ns ps s) (hp : P s) {K : Bool → G} (h : ∀ w', Fr noB w w' → K (p s) R w') : callVG Tryz.prog fv #[shArg k o n ns ps] [.one .bool] K R w := by
 obtain ⟨f, cs, rfl, hr, hc⟩ := hq
 refine ⟨f, #[], cs, rfl, hr, ?_⟩
 rw [Array.empty_append]
 exact (hc w F0 _ _ _ _ _ s hv hp).mono fun e w' ⟨he, F⟩ => .inl ⟨((p s, ()), ()), he, h w' F⟩
theorem containsSh_ok {w : World} {l0 : Sl} {L : List Shape} {fv : Value} {p : Shape → Bool} (hL : ShL w l0.a 0 L) (h0 : l0.n = L.length) (hl : L.length < 4611686018427387904) (hf : FunSh fv (· ∈ L) p w) :
  AnsB 169 #[.slice l0.a l0.n l0.c, fv] w (L.any p) := by
 have key : Calls Tryz.prog 197 #[.slice l0.a l0.n l0.c, fv] w fun e w' => ∃ n : Int, e = .returned (.int .i64 n) ∧ decide (n ≥ 0) = L.any p ∧ Fr noB w w' := by
  refine c197 l0 fv ?_
  unfold t197 wrZ ivZ shZ ld5xZ jn0Z lpIZ ixZ
  refine join0_ok (fun w' => L.any p = false ∧ Fr noB w w') (fun kend hkend => ?_) (fun w' ⟨h, F⟩ => ⟨-1, rfl, by rw [h]; rfl, F⟩)
  refine countL_ok L.length (by omega) (fun i w' => (∀ (j : Nat) s, j < i → L[j]? = some s → p s = false) ∧ Fr noB w w') (fun rec i w1 hi hI hrec => ?_) ⟨fun j s h => by omega, Fr.refl _ _⟩
  obtain ⟨hdone, F1⟩ := hI
  refine ite_ok (fun hlt => ?_) fun hge => hkend _ ⟨?_, F1⟩
  ·have hlt : (i : Int) < (l0.n : Int) := of_decide_eq_true hlt
   obtain ⟨s, hs⟩ : ∃ s, L[i]? = some s := ⟨_, List.getElem?_eq_getElem (by omega)⟩
   have hm := List.mem_of_getElem? hs
   refine join_in (vs := []) (part_ld0 hL F1 hs h0 fun k1 o1 n1 ns1 ps1 hv1 => callFSh_ok hf F1 (hv1.fr F1) hm fun w2 F2 => ?_)
   refine ite_ok (fun hp => ⟨(i : Int), rfl, ?_, F1.tr F2⟩) fun hp => hrec (by omega) _ ⟨fun j x hj hx => ?_, F1.tr F2⟩
   ·rw [decide_eq_true (by omega)]
    exact (List.any_eq_true.2 ⟨s, hm, hp⟩).symm
   ·rcases Nat.lt_succ_iff_lt_or_eq.1 hj with hj | rfl
    ·exact hdone j x hj hx
    ·rw [hs] at hx
     cases hx
     exact hp
  ·have hge : ¬ (i : Int) < (l0.n : Int) := of_decide_eq_false hge
   rw [List.any_eq_false]
   intro s hs
   obtain ⟨j, hj⟩ := List.mem_iff_getElem?.1 hs
   have := (List.getElem?_eq_some_iff.1 hj).1
   rw [hdone j s (by omega) hj]
   exact Bool.false_ne_true
 refine c169 l0 fv ?_
 unfold t169 svZ caIZ
 refine call_ok key ?_
 rintro e w' ⟨n, rfl, hn, F⟩
 exact ⟨((n, ()), ()), rfl, by rw [hn], F⟩
theorem eachTm_e : t110 = fun (l0 : Sl) (v1 : Value) => newG (.cells v1.cells 87 (0, 0)) (fun (m2 : Nat) => callG Tryz.prog 145 #[.slice l0.a l0.n l0.c, .func (.func 146) #[] #[.pointer (some ⟨m2, 0, none⟩)]] [.one .bool] (fun (b3 : Bool) => retG (.bool (!b3)))) := by kernel_rfl
theorem resEachTm : (resOf Tryz.prog 146).isSome = true := by kernel_rfl
theorem eachTm_ok {w : World} {l0 : Sl} {L : List Tm} {fv : Value} {p : Tm → Bool} (hL : TmL w l0.a 0 L) (h0 : l0.n = L.length) (hl : L.length < 4611686018427387904) (hf : FunTm fv (· ∈ L) p w) :
  AnsB 110 #[.slice l0.a l0.n l0.c, fv] w (L.all p) := by
 obtain ⟨f, cs, rfl, hr, hc⟩ := id hf
 refine c110 l0 (.func (.func f) #[] cs) ?_
 rw [eachTm_e]
 refine new_ok (cs := #[.func (.func f) #[] cs]) fun w1 m hm hs1 B1 F1 => ?_
 refine callB_ok (containsTm_ok (p := fun x => !p x) (hL.fr F1) h0 hl ⟨_, _, rfl, resEachTm, fun w2 F2 k o n z ns vs ss ps at1 s hv hs => ?_⟩) fun w3 F3 => ⟨by rw [all_any], F1.tr F3⟩
 show AnsB _ #[tmArg k o n z ns vs ss ps at1, .pointer (some ⟨m, 0, none⟩)] w2 _
 apply c146
 unfold t146 ivZ tvZ svZ ldIZ ldSZ ldLZ nwZ
 refine new_ok fun w3 m7 hm7 hs3 B3 F3 => ?_
 change Blk w3 m7 _ (tmCells k o n z ns vs ss ps at1) at B3
 refine (B1.fr (F2.tr F3) (fun h => h)).ld (c := .any) (x := .func (.func f) #[] cs) (o := 0) rfl (B3.ld_tm ?_)
 exact callFTm_ok hf ((F1.tr F2).tr F3) (hv.fr F3) hs fun w4 F4 => ⟨rfl, F3.tr F4⟩
theorem eachTSh_e : t140 = fun (l0 : Sl) (v1 : Value) => newG (.cells v1.cells 70 (0, 0)) (fun (m2 : Nat) => callG Tryz.prog 169 #[.slice l0.a l0.n l0.c, .func (.func 170) #[] #[.pointer (some ⟨m2, 0, none⟩)]] [.one .bool] (fun (b3 : Bool) => retG (.bool (!b3)))) := by kernel_rfl
theorem resEachTSh : (resOf Tryz.prog 170).isSome = true := by kernel_rfl
theorem eachTSh_ok {w : World} {l0 : Sl} {L : List Shape} {fv : Value} {p : Shape → Bool} (hL : ShL w l0.a 0 L) (h0 : l0.n = L.length) (hl : L.length < 4611686018427387904) (hf : FunSh fv (· ∈ L) p w) :
  AnsB 140 #[.slice l0.a l0.n l0.c, fv] w (L.all p) := by
 obtain ⟨f, cs, rfl, hr, hc⟩ := id hf
 refine c140 l0 (.func (.func f) #[] cs) ?_
 rw [eachTSh_e]
 refine new_ok (cs := #[.func (.func f) #[] cs]) fun w1 m hm hs1 B1 F1 => ?_
 refine callB_ok (containsSh_ok (p := fun x => !p x) (hL.fr F1) h0 hl ⟨_, _, rfl, resEachTSh, fun w2 F2 k o n ns ps s hv hs => ?_⟩) fun w3 F3 => ⟨by rw [all_any], F1.tr F3⟩
 show AnsB _ #[shArg k o n ns ps, .pointer (some ⟨m, 0, none⟩)] w2 _
 apply c170
 unfold t170 shZ ld5mZ nw5Z
 refine new_ok fun w3 m7 hm7 hs3 B3 F3 => ?_
 change Blk w3 m7 _ (shCells k o n ns ps) at B3
 refine (B1.fr (F2.tr F3) (fun h => h)).ld (c := .any) (x := .func (.func f) #[] cs) (o := 0) rfl (B3.ldV ?_)
 exact callFSh_ok hf ((F1.tr F2).tr F3) (hv.fr F3) hs fun w4 F4 => ⟨rfl, F3.tr F4⟩
theorem eachTStr_e : t144 = fun (l0 : Sl) (v1 : Value) => newG (.cells v1.cells 82 (0, 0)) (fun (m2 : Nat) => callG Tryz.prog 134 #[.slice l0.a l0.n l0.c, .func (.func 173) #[] #[.pointer (some ⟨m2, 0, none⟩)]] [.one .bool] (fun (b3 : Bool) => retG (.bool (!b3)))) := by kernel_rfl
theorem resEachTStr : (resOf Tryz.prog 173).isSome = true := by kernel_rfl
theorem eachTStr_ok {w : World} {l0 : Sl} {L : List B} {f : FuncId} {p : B → Bool} (hL : RdS w l0 (L.map bs)) (hl : L.length < 4611686018427387904) (hr : (resOf Tryz.prog f).isSome = true)
  (hf : ∀ x ∈ L, ∀ w1, Fr noB w w1 → AnsB f #[.string (bs x)] w1 (p x)) : AnsB 144 #[.slice l0.a l0.n l0.c, .func (.func f) #[] #[]] w (L.all p) := by
 refine c144 l0 (.func (.func f) #[] #[]) ?_
 rw [eachTStr_e]
 refine new_ok (cs := #[.func (.func f) #[] #[]]) fun w1 m hm hs1 B1 F1 => ?_
 refine callB_ok (containsT_ok (p := fun x => !p x) (hL.fr F1) hl resEachTStr fun x hx w2 F2 => ?_) fun w3 F3 => ⟨by rw [all_any], F1.tr F3⟩
 show AnsB _ #[.string (bs x), .pointer (some ⟨m, 0, none⟩)] w2 _
 apply c173
 unfold t173 tvZ
 refine (B1.fr F2 (fun h => h)).ld (c := .any) (x := .func (.func f) #[] #[]) (o := 0) rfl ?_
 exact callBV_ok hr (hf x hx w2 (F1.tr F2)) fun w4 F4 => ⟨rfl, F4⟩
end Go.Proofs.YtngfnokbdcjoeaaGreatDoor
end
section
namespace Go.Proofs.YtngfnokbdcjoeaaGreatDoor
open Go.Lift Go.Lex Go.Shp Go.Tms
open Go.RowKit Go.Sort
theorem tapart_ok {w : World} {l0 : Sl} {names : List B} (hns : RdS w l0 (names.map bs)) (hnl : names.length * 16 ≤ 140737488351232) (hxl : ∀ x ∈ names, x.length < 4611686018427387904) : AnsB 143 #[.slice l0.a l0.n l0.c] w (names.all isName && decide names.Nodup) := by
 have hnn := hns.1
 rw [List.length_map] at hnn
 apply c143
 unfold t143 svZ caBZ caLZ caZ jnBZ
 refine call_ok (values_new l0 w) ?_
 rintro e w3 ⟨m, rfl, C3, F3⟩
 refine ⟨((_, ()), ()), rfl, ?_⟩
 refine call_ok (sorted_ok hnl C3 (hns.fr F3)) ?_
 rintro e w4 ⟨r, rfl, hrow, F4⟩
 refine ⟨((r, ()), ()), rfl, ?_⟩
 have G4 := F3.tr F4
 refine join1_ok (c := .bool) (fun (b : Bool) w' => b = (names.all isName && decide names.Nodup) ∧ Fr noB w w') (fun kj hkj => ?_) fun b w' ⟨hb, F⟩ => ⟨by rw [hb], F⟩
 refine callB_ok (eachTStr_ok (p := isName) (hns.fr G4) (by omega) resName fun x hx w1 F1 => ?_) fun w5 F5 => ?_
 ·have h := Name_ok (w := w1) (bs x) (by rw [bs_size]; exact hxl x hx)
  rwa [bl_bs] at h
 refine ite_ok (fun ha => ?_) fun ha => hkj _ _ ⟨by rw [ha]; rfl, G4.tr F5⟩
 have hsrt := compact_sort names
 have fin : ∀ (r2 : Sl) w6, Fr noB w w6 → (r2.n = names.length ↔ names.Nodup) → kj (((r2.n : Nat) : Int) == ((l0.n : Nat) : Int)) (fun e w' => e = .returned (.bool (names.all isName && decide names.Nodup)) ∧ Fr noB w w') w6 := by
  intro r2 w6 F6 hr
  refine hkj _ _ ⟨?_, F6⟩
  rw [ha, Bool.true_and, Bool.eq_iff_iff, beq_iff_eq, decide_eq_true_eq, ← hr]
  omega
 rcases hrow.2 with ⟨he, hz⟩ | ⟨g, cap, cur, he, hbase, hgb, r1, r2, r3, r4⟩
 ·have hL : names = [] := List.eq_nil_of_length_eq_zero (by simpa using hz)
  obtain ⟨a, nn, c⟩ := r
  cases he
  refine call_ok (Tryz.slices_Compact_string_empty none 0 w5) ?_
  rintro e w6 ⟨rfl, rfl⟩
  exact ⟨((⟨none, 0, 0⟩, ()), ()), rfl, fin ⟨none, 0, 0⟩ _ (G4.tr F5) (by subst hL; simp)⟩
 ·obtain ⟨a, nn, c⟩ := r
  cases he
  have hzl : (names.mergeSort fun x y => decide (x ≤ y)).length = names.length := List.length_mergeSort _
  have hgb' : w5.heap[g]? = some (.cells cur 9 (0, 0)) := by
   rw [F5.blk g (Array.getElem?_eq_some_iff.1 hgb).1 (fun h => h)]
   exact hgb
  have hH : Holds encStr w5 g 0 (names.mergeSort fun x y => decide (x ≤ y)).toArray := holds_of_block hgb' (by rw [hzl]; simpa using r4)
  have hcc := Tryz.slices_Compact_string g 0 c (names.mergeSort fun x y => decide (x ≤ y)) w5 hH (by omega) (hzl ▸ r1)
  rw [hzl] at hcc
  refine call_ok hcc ?_
  rintro e w6 ⟨rfl, q, rfl⟩
  have hgr := Fr.of_grown (grownBy_sorted (w := w5) (g := g) (n := q) (os := #[]) (Lib.compact (names.mergeSort fun x y => decide (x ≤ y)) ++ List.replicate (names.length - (Lib.compact (names.mergeSort fun x y => decide (x ≤ y))).length) []).toArray)
  rw [grow_empty] at hgr
  have hg1 : w3.heap.size ≤ g := hbase
  have hw3 := F3.size
  exact ⟨((⟨some ⟨g, 0, none⟩, _, c⟩, ()), ()), rfl, fin ⟨some ⟨g, 0, none⟩, _, c⟩ _ ((G4.tr F5).then hgr fun x hx h => by cases h; omega) hsrt⟩
theorem resOpen : (resOf Tryz.prog 171).isSome = true := by kernel_rfl
theorem topen_ok : ∀ (d : Nat) (s : Shape), size s ≤ d → ∀ {w : World} {k : Int} {o n : ByteArray} {ns ps : Sl}, ShV w k o n ns ps s → AnsB 171 #[shArg k o n ns ps] w (sopen s)
 | 0, s, h, _, _, _, _, _, _, _ => by have := size_pos s; omega
 | d + 1, .mk k' o' n' names parts, hd, w, k, o, n, ns, ps, hv => by
  rw [size_mk] at hd
  obtain ⟨ek, _, _, ⟨_, _, hpn, hpl, _⟩, hps⟩ := hv.parts
  change k = k' at ek
  change ps.n = parts.length at hpn
  change parts.length < 4611686018427387904 at hpl
  change ShL w ps.a 0 parts at hps
  apply c171
  unfold t171 svZ ldIZ ldLZ nw5Z caBZ jnBZ
  refine new_ok fun w1 m5 hm5 hs1 B1 F1 => ?_
  change Blk w1 m5 _ (shCells k o n ns ps) at B1
  have hsp : sopen (.mk k' o' n' names parts) = (decide (k' ≠ 10) && parts.all sopen) := by rw [sopen, sopens_all]
  refine join1_ok (c := .bool) (fun (b : Bool) w' => b = sopen (.mk k' o' n' names parts) ∧ Fr noB w w') (fun kj hkj => ?_) (fun b w' h => done_b h)
  refine B1.ld (c := .int .i64) (x := k) (o := 0) rfl (ite_ok (fun h => ?_) fun h => hkj _ _ ⟨?_, F1⟩)
  ·have h : k' ≠ 10 := by rw [← ek]; simpa using h
   refine B1.ldS (o := 4) rfl (callB_ok (eachTSh_ok (p := sopen) (hps.fr F1) hpn hpl ⟨_, #[], rfl, resOpen, fun w2 F2 k1 o1 n1 ns1 ps1 s hv1 hs => ?_⟩) fun w2 F2 => hkj _ _ ⟨?_, F1.tr F2⟩)
   ·rw [Array.append_empty]
    have := size_mem hs
    exact topen_ok d s (by omega) hv1
   ·rw [hsp, decide_eq_true h, Bool.true_and]
  ·have h : k' = 10 := by rw [← ek]; simpa using h
   rw [hsp, decide_eq_false (by simpa using h), Bool.false_and]
theorem resTyped : (resOf Tryz.prog 141).isSome = true := by kernel_rfl
theorem typed_ok {s : Shape} {w : World} {k : Int} {o n : ByteArray} {ns ps : Sl} (hv : ShV w k o n ns ps s) : AnsB 141 #[shArg k o n ns ps] w (typed s) := by
 apply c141
 unfold t141 shZ ld5mZ nw5Z caBZ caIZ jnBZ
 refine new_ok fun w1 m5 hm5 hs1 B1 F1 => ?_
 change Blk w1 m5 _ (shCells k o n ns ps) at B1
 refine join1_ok (c := .bool) (fun (b : Bool) w' => b = typed s ∧ Fr noB w w') (fun kj hkj => ?_) (fun b w' h => done_b h)
 refine B1.ldV (callI_ok (scheck_ok scountC snamedC (hv.fr F1)) fun w2 F2 => ?_)
 have B2 := B1.fr F2 (fun h => h)
 refine ite_ok (fun h => B2.ldV (callB_ok (topen_ok _ s (Nat.le_refl _) (hv.fr (F1.tr F2))) fun w3 F3 => hkj _ _ ⟨?_, (F1.tr F2).tr F3⟩)) fun h => hkj _ _ ⟨?_, F1.tr F2⟩
 ·have h : check s = 0 := by have := of_decide_eq_true (by simpa using h : decide ((check s : Int) = 0) = true); omega
  unfold typed
  rw [decide_eq_true h, Bool.true_and]
 ·have h : ¬ check s = 0 := fun h0 => by rw [h0] at h; cases h
  unfold typed
  rw [decide_eq_false h, Bool.false_and]
set_option maxHeartbeats 2000000 in
theorem tcount_ok : ∀ (d : Nat) (most : Nat), most ≤ d → ∀ (s : Tm) {w : World} {k z at1 : Int} {o n : ByteArray} {ns vs ss ps : Sl}, most ≤ 1000000 → TmV w k o n z ns vs ss ps at1 s →
  Calls Tryz.prog 78 #[tmArg k o n z ns vs ss ps at1, .int .i64 (most : Int)] w fun e w' => (∃ a b : Nat, e = .returned (.tuple #[.int .i64 (a : Int), .int .i64 (b : Int)]) ∧ a = min (tsize s) (most + 1) ∧ b ≤ most + 2 ∧ (tsize s ≤ most → b = tdeep s)) ∧ Fr noB w w'
 | d, most, hmd, .mk k' o' n' z' names vars shapes parts a', w, k, z, at1, o, n, ns, vs, ss, ps, hm, hv => by
  obtain ⟨_, _, _, _, _, ⟨_, _, _, _, _, _, hpn, hpl, _⟩, _, hps⟩ := hv.parts
  change ps.n = parts.length at hpn
  change parts.length < 4611686018427387904 at hpl
  change TmL w ps.a 0 parts at hps
  apply c78
  unfold t78 wrZ ivZ tvZ svZ ldIZ ldSZ ldLZ nwZ caZ ixZ
  rw [tsize_mk, tdeep_mk]
  refine new_ok fun w1 m10 hm10 hs1 B1 F1 => ?_
  change Blk w1 m10 _ (tmCells k o n z ns vs ss ps at1) at B1
  refine B1.ldS (o := 7) rfl ?_
  refine join2_ok (c := .int .i64) (d := .int .i64) (fun (a b : Int) w' => ∃ x y : Nat, a = (x : Int) ∧ b = (y : Int) ∧ x = min (1 + tsizes parts) (most + 1) ∧ y ≤ most + 1 ∧ (1 + tsizes parts ≤ most → y = tdeeps parts) ∧ Fr noB w w') (fun kend hkend => ?_) ?_
  ·refine loop_ok (vs := [.one (.int .i64), .one (.int .i64), .one (.int .i64)]) (fun xs w' => ∃ i x y : Nat, i ≤ parts.length ∧ (show Int from xs.1.1) = (x : Int) ∧ (show Int from xs.2.1.1) = (y : Int) ∧ (show Int from xs.2.2.1.1) = (i : Int) ∧ x = min (1 + tsizes (parts.take i)) (most + 1) ∧ y ≤ most + 1 ∧ (1 + tsizes (parts.take i) ≤ most → y = tdeeps (parts.take i)) ∧ Fr noB w w')
    (fun xs => parts.length - (show Int from xs.2.2.1.1).toNat) ?_ (xs := (((1 : Int), ()), (((0 : Int), ()), (((0 : Int), ()), ())))) ⟨0, 1, 0, by omega, rfl, rfl, rfl, by simp [tsizes], by omega, fun _ => by simp [tdeeps], F1⟩
   rintro rec ⟨⟨a, ⟨⟩⟩, ⟨⟨b, ⟨⟩⟩, ⟨⟨c, ⟨⟩⟩, ⟨⟩⟩⟩⟩ wi ⟨i, x, y, hi, hx, hy, hc, ex, ey, edp, Fi⟩ hrec
   change Int at a
   change Int at b
   change Int at c
   change a = _ at hx
   change b = _ at hy
   change c = _ at hc
   subst hx hy hc
   refine ite_ok (fun hlt => ?_) fun hge => hkend _ _ _ ⟨x, y, rfl, rfl, ?_, ey, ?_, Fi⟩
   rotate_left
   ·have hge : ¬ (i : Int) < (ps.n : Int) := of_decide_eq_false hge
    rw [List.take_of_length_le (by omega)] at ex
    exact ex
   ·have hge : ¬ (i : Int) < (ps.n : Int) := of_decide_eq_false hge
    rw [List.take_of_length_le (by omega)] at edp
    exact edp
   have hlt : (i : Int) < (ps.n : Int) := of_decide_eq_true hlt
   obtain ⟨p, hp⟩ : ∃ p, parts[i]? = some p := ⟨_, List.getElem?_eq_getElem (by omega)⟩
   have hst := tsizes_take hp
   have hdt := tdeeps_take hp
   have hle := tsizes_le parts (i + 1)
   have hpos := tsize_pos p
   refine join_in (vs := [.one (.int .i64), .one (.int .i64)]) (tmpart_ld0 hps Fi hp hpn fun k1 o1 n1 z1 ns1 vs1 ss1 ps1 at11 hv1 => new_ok fun w2 m28 hm28 hs2 B2 F2 => fill9_ok B2 rfl rfl rfl rfl rfl rfl rfl rfl rfl rfl fun w3 B3 F3 => ?_)
   change Blk w3 m28 _ (tmCells k1 o1 n1 z1 ns1 vs1 ss1 ps1 at11) at B3
   have J3 : Fr noB wi w3 := F2.fill (by omega) F3
   have H3 := Fi.tr J3
   refine ite_ok (fun hbig => hkend _ _ _ ⟨x, y, rfl, rfl, ?_, ey, fun h => ?_, H3⟩) fun hok => ?_
   ·have hbig : (x : Int) > (most : Int) := of_decide_eq_true hbig
    omega
   ·have hbig : (x : Int) > (most : Int) := of_decide_eq_true hbig
    omega
   have hok : ¬ (x : Int) > (most : Int) := of_decide_eq_false hok
   have exx : x = 1 + tsizes (parts.take i) := by omega
   have ew : IntKind.wrap .i64 ((most : Int) - (x : Int)) = ((most - x : Nat) : Int) := by rw [wrap_ok (by omega) (by omega)]; omega
   rw [ew]
   refine B3.ld_tm (call_ok (tcount_ok (d - 1) (most - x) (by omega) p (by omega) (hv1.fr H3)) ?_)
   rintro e w4 ⟨⟨a2, b2, rfl, ha2, hb2, hd2⟩, F4⟩
   refine ⟨(((a2 : Int), ()), (((b2 : Int), ()), ())), rfl, ?_⟩
   have ew1 : IntKind.wrap .i64 ((x : Int) + (a2 : Int)) = ((x + a2 : Nat) : Int) := by rw [wrap_ok (by omega) (by omega)]; omega
   have ew2 : IntKind.wrap .i64 ((i : Int) + 1) = ((i + 1 : Nat) : Int) := by rw [wrap_ok (by omega) (by omega)]; omega
   have ew3 : (if (b2 : Int) > (y : Int) then (b2 : Int) else (y : Int)) = ((max b2 y : Nat) : Int) := by split <;> omega
   show uncV rec (((IntKind.wrap .i64 ((x : Int) + (a2 : Int))), ()), ((if (b2 : Int) > (y : Int) then (b2 : Int) else (y : Int)), ()), ((IntKind.wrap .i64 ((i : Int) + 1), ()), ())) _ w4
   rw [ew1, ew2, ew3]
   refine hrec _ _ ⟨i + 1, x + a2, max b2 y, by omega, rfl, rfl, rfl, by omega, by omega, fun h => ?_, H3.tr F4⟩ (by show parts.length - ((i + 1 : Nat) : Int).toNat < parts.length - ((i : Nat) : Int).toNat; simp only [Int.toNat_natCast]; omega)
   have h1 := hd2 (by omega)
   have h2 := edp (by omega)
   rw [hdt, h1, h2]
   omega
  ·rintro a b w2 ⟨x, y, rfl, rfl, ex, ey, edp, F2⟩
   have ew : IntKind.wrap .i64 ((y : Int) + 1) = ((y + 1 : Nat) : Int) := by rw [wrap_ok (by omega) (by omega)]; omega
   refine ⟨⟨x, y + 1, ?_, ex, by omega, fun h => by rw [edp h]; omega⟩, F2⟩
   rw [← ew]
 termination_by d => d
end Go.Proofs.YtngfnokbdcjoeaaGreatDoor
end
