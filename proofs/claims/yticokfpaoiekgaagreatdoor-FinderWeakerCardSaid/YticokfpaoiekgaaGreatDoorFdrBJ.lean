/- The law behind: one part of its proof (joined by program out of my own texts). No condition. -/
import Derived.Test.YticokfpaoiekgaaGreatDoorFdrBI
import Derived.WalkKit
import Derived.ProofKit
import Derived.OpenShut
import Derived.JoinedCond
import Derived.ReadAgain
import Derived.ChangeStays
import Derived.Deep.SlicePairs
import Derived.Deep.Grids
import Derived.Lib.SmallJoins
import Derived.Test.YticokfpaoiekgaaGreatDoorRows
import Derived.Deep.Slices
section
namespace Go.Lift
theorem countI_ok {body : (Int → Int → G) → Int → Int → G} {R : Ending → World → Prop} {w : World} (n : Nat) (hn : n ≤ 9223372036854775807) (I : Nat → Int → World → Prop)
  (hbody : ∀ (rec : Int → Int → G) (k : Nat) (l : Int) (w : World), k ≤ n → I k l w → (k < n → ∀ l' w', I (k + 1) l' w' → rec l' (IntKind.wrap .i64 ((k : Int) + 1)) R w') → body rec l (k : Int) R w)
  {l : Int} (h : I 0 l w) : loopG [.one (.int .i64), .one (.int .i64)] body l (0 : Int) R w := by
 refine loop_ok (vs := [.one (.int .i64), .one (.int .i64)]) (body := body) (fun xs w' => ∃ k : Nat, (show Int from xs.2.1.1) = (k : Int) ∧ k ≤ n ∧ I k (show Int from xs.1.1) w') (fun xs => n - (show Int from xs.2.1.1).toNat) ?_ (xs := ((l, ()), (((0 : Int), ()), ()))) ⟨0, rfl, Nat.zero_le _, h⟩
 rintro rec ⟨⟨l1, ⟨⟩⟩, ⟨⟨i, ⟨⟩⟩, ⟨⟩⟩⟩ w1 ⟨k, hi, hk, hI⟩ hrec
 change Int at l1
 change Int at i
 change i = _ at hi
 subst hi
 refine hbody rec k l1 w1 hk hI fun hlt l' w' hI' => ?_
 have e : IntKind.wrap .i64 ((k : Int) + 1) = ((k + 1 : Nat) : Int) := by rw [wrap_ok (by omega) (by omega)]; omega
 rw [e]
 exact hrec ((l', ()), ((((k + 1 : Nat) : Int), ()), ())) w' ⟨k + 1, rfl, by omega, hI'⟩ (by show n - ((k + 1 : Nat) : Int).toNat < n - ((k : Nat) : Int).toNat; simp only [Int.toNat_natCast]; omega)
end Go.Lift
namespace Go.Shp
theorem itemsN_one {D : List Dep} {i : Nat} {d : Dep} (h : D[i]? = some d) : itemsN (D.take (i + 1)) = itemsN (D.take i) + d.items.length := by
 have htk : D.take (i + 1) = D.take i ++ [d] := by rw [List.take_add_one, h]; rfl
 rw [htk]
 simp [itemsN]
theorem itemsN_mem : ∀ {D : List Dep} {d : Dep}, d ∈ D → d.items.length ≤ itemsN D
 | x :: D, d, h => by
  unfold itemsN
  rw [List.map_cons, List.sum_cons]
  rcases List.mem_cons.1 h with rfl | h
  ·omega
  ·have := itemsN_mem h
   unfold itemsN at this
   omega
end Go.Shp
namespace Go.Proofs.YticokfpaoiekgaaGreatDoor
open Go.Lift Go.Lex Go.Shp
section
variable {w : World} {s : Sl} {D : List Dep}
set_option maxHeartbeats 1000000 in
theorem Small_ok (hD : DpR w s D) : Calls Tryz.prog 27 #[.slice s.a s.n s.c] w fun e w' => ∃ b, e = .returned (.bool b) ∧ Fr noB w w' ∧ (b = true → itemsN D ≤ 200) := by
 have hsn := hD.1
 have hsl := hD.2.1
 apply c27
 unfold t27 wrZ ivZ shZ ldLZ ld5xZ caIZ jn0Z jnIZ lpIIZ ixZ
 refine join0_ok (fun w' => Fr noB w w' ∧ itemsN D ≤ 200) (fun kj hkj => ?_) fun w' ⟨F, h⟩ => ⟨true, rfl, F, fun _ => h⟩
 refine countI_ok D.length (by omega) (fun i n w' => 0 ≤ n ∧ n ≤ 4000 ∧ 20 * ((itemsN (D.take i) : Nat) : Int) ≤ n ∧ Fr noB w w') (fun rec i n w1 hi hI hrec => ?_) ⟨by omega, by omega, by simp [itemsN], Fr.refl _ _⟩
 obtain ⟨h0, h1, h2, F1⟩ := hI
 refine ite_ok (fun hlt => ?_) fun hge => hkj _ ⟨F1, ?_⟩
 rotate_left
 ·have hge : ¬ (i : Int) < ((s.n : Nat) : Int) := of_decide_eq_false hge
  rw [List.take_of_length_le (l := D) (by omega)] at h2
  omega
 have hlt : (i : Int) < ((s.n : Nat) : Int) := of_decide_eq_true hlt
 obtain ⟨d, hd⟩ : ∃ d, D[i]? = some d := ⟨_, List.getElem?_eq_getElem (by omega)⟩
 have hone := itemsN_one hd
 refine join1_ok (c := .int .i64) (fun (n : Int) w' => 0 ≤ n ∧ n ≤ 4000 ∧ 20 * ((itemsN (D.take (i + 1)) : Nat) : Int) ≤ n ∧ Fr noB w w') (fun k5 hk5 => ?_) fun n' w' h => hrec (by omega) n' w' h
 refine ite_ok (fun _ => ⟨false, rfl, F1, fun h => by cases h⟩) fun _ => ?_
 refine join1_ok (c := .int .i64) (fun (n : Int) w' => 0 ≤ n ∧ n ≤ 4000 ∧ 20 * ((itemsN (D.take (i + 1)) : Nat) : Int) ≤ n ∧ Fr noB w w') (fun k6 hk6 => ?_) fun n' w' h => hk5 n' w' h
 have hdl : d.items.length < 4611686018427387904 := by
  obtain ⟨_, _, _, _, _, _, _, h⟩ := hD.2.2 i d hd
  exact h.2.2.2.1
 refine countI_ok d.items.length (by omega) (fun k n w' => 0 ≤ n ∧ n ≤ 4000 ∧ 20 * (((itemsN (D.take i) + k : Nat)) : Int) ≤ n ∧ Fr noB w w') (fun rec2 k n2 w2 hk hI2 hrec2 => ?_) ⟨h0, h1, by simpa using h2, F1⟩
 obtain ⟨p0, p1, p2, F2⟩ := hI2
 refine dep_its (hD.fr F2) hd fun its hin hil hL => ?_
 refine ite_ok (fun hlt2 => ?_) fun hge2 => hk6 _ _ ⟨p0, p1, ?_, F2⟩
 rotate_left
 ·have hge2 : ¬ (k : Int) < ((its.n : Nat) : Int) := of_decide_eq_false hge2
  have : k = d.items.length := by omega
  rw [hone, ← this]
  exact p2
 have hlt2 : (k : Int) < ((its.n : Nat) : Int) := of_decide_eq_true hlt2
 obtain ⟨it, hit⟩ : ∃ it, d.items[k]? = some it := ⟨_, List.getElem?_eq_getElem (by omega)⟩
 refine join1_ok (c := .int .i64) (fun (n : Int) w' => 0 ≤ n ∧ n ≤ 4000 ∧ 20 * (((itemsN (D.take i) + (k + 1) : Nat)) : Int) ≤ n ∧ Fr noB w w') (fun k12 hk12 => ?_) fun n' w' h => hrec2 (by omega) n' w' h
 refine dep_its (hD.fr F2) hd fun its2 hin2 hil2 hL2 => item_sh hL2 hit hin2 fun k' o n ns ps hv => callI_ok (rSize_ok (size it.shape) _ (Nat.le_refl _) 800 (by omega) hv) fun w3 F3 => ?_
 obtain ⟨hle, hge1⟩ := refSize_le it.shape 800
 have e1 : IntKind.wrap .i64 ((20 : Int) + ((refSize it.shape 800 : Nat) : Int)) = (20 : Int) + ((refSize it.shape 800 : Nat) : Int) := wrap_ok (by omega) (by omega)
 have e2 : IntKind.wrap .i64 (n2 + ((20 : Int) + ((refSize it.shape 800 : Nat) : Int))) = n2 + ((20 : Int) + ((refSize it.shape 800 : Nat) : Int)) := wrap_ok (by omega) (by omega)
 rw [e1, e2]
 refine ite_ok (fun _ => ⟨false, rfl, F2.tr F3, fun h => by cases h⟩) fun h => hk12 _ _ ⟨by omega, ?_, by omega, F2.tr F3⟩
 have h : ¬ n2 + ((20 : Int) + ((refSize it.shape 800 : Nat) : Int)) > 4000 := of_decide_eq_false h
 omega
def Few (D : List Dep) : Prop := itemsN D ≤ 200 ∧ ∀ d ∈ D, ∀ it ∈ d.items, it.name.length ≤ 300
set_option maxHeartbeats 1000000 in
theorem smallD_ok (hD : DpR w s D) : Calls Tryz.prog 12 #[.slice s.a s.n s.c] w fun e w' => ∃ b, e = .returned (.bool b) ∧ Fr noB w w' ∧ (b = true → Few D) := by
 have hsn := hD.1
 have hsl := hD.2.1
 apply c12
 unfold t12 wrZ svZ ldSZ ldLZ caBZ jn0Z jnBZ lpIZ ixZ
 refine join0_ok (fun w' => Fr noB w w' ∧ ∀ (i : Nat) d, D[i]? = some d → ∀ it ∈ d.items.take 300, it.name.length ≤ 300) (fun kj hkj => ?_) fun w' ⟨F, h⟩ => ?_
 rotate_left
 ·refine call_ok (Small_ok (hD.fr F)) ?_
  rintro e w2 ⟨b, rfl, F2, hb⟩
  refine ⟨((b, ()), ()), rfl, b, rfl, F.tr F2, fun ht => ⟨hb ht, fun d hd it hit => ?_⟩⟩
  have h1 := itemsN_mem hd
  have h2 := hb ht
  obtain ⟨i, hi⟩ := List.mem_iff_getElem?.1 hd
  exact h i d hi it (by rw [List.take_of_length_le (by omega)]; exact hit)
 refine countL_ok D.length (by omega) (fun i w' => Fr noB w w' ∧ ∀ (j : Nat) d, j < i → D[j]? = some d → ∀ it ∈ d.items.take 300, it.name.length ≤ 300) (fun rec i w1 hi hI hrec => ?_) ⟨Fr.refl _ _, fun j d h => by omega⟩
 obtain ⟨F1, hdone⟩ := hI
 refine ite_ok (fun hlt => ?_) fun hge => hkj _ ⟨F1, fun j d hj => hdone j d ?_ hj⟩
 rotate_left
 ·have hge : ¬ (i : Int) < ((s.n : Nat) : Int) := of_decide_eq_false hge
  have := (List.getElem?_eq_some_iff.1 hj).1
  omega
 have hlt : (i : Int) < ((s.n : Nat) : Int) := of_decide_eq_true hlt
 obtain ⟨d, hd⟩ : ∃ d, D[i]? = some d := ⟨_, List.getElem?_eq_getElem (by omega)⟩
 have hdl : d.items.length < 4611686018427387904 := by
  obtain ⟨_, _, _, _, _, _, _, h⟩ := hD.2.2 i d hd
  exact h.2.2.2.1
 refine join0_ok (fun w' => Fr noB w w' ∧ ∀ it ∈ d.items.take 300, it.name.length ≤ 300) (fun k4 hk4 => ?_) fun w' ⟨F, h⟩ => hrec (by omega) w' ⟨F, fun j d' hj hd' => ?_⟩
 rotate_left
 ·rcases Nat.lt_succ_iff_lt_or_eq.1 hj with hj | rfl
  ·exact hdone j d' hj hd'
  ·rw [hd] at hd'
   cases hd'
   exact h
 refine join0_ok (fun w' => Fr noB w w' ∧ ∀ it ∈ d.items.take 300, it.name.length ≤ 300) (fun k5 hk5 => ?_) fun w' h => hk4 w' h
 refine countL_ok d.items.length (by omega) (fun k w' => Fr noB w w' ∧ k ≤ 300 ∧ ∀ it ∈ d.items.take k, it.name.length ≤ 300) (fun rec2 k w2 hk hI2 hrec2 => ?_) ⟨F1, by omega, fun it h => by simp at h⟩
 obtain ⟨F2, hk3, hp⟩ := hI2
 refine join1_ok (c := .bool) (fun (b : Bool) w' => Fr noB w w' ∧ (b = true → k < d.items.length ∧ k < 300) ∧ (b = false → ∀ it ∈ d.items.take 300, it.name.length ≤ 300)) (fun k8 hk8 => ?_) fun b w3 ⟨F3, hb1, hb2⟩ => ?_
 ·refine dep_its (hD.fr F2) hd fun its hin hil hL => ite_ok (fun hlt2 => hk8 _ _ ⟨F2, fun hb => ?_, fun hb => ?_⟩) fun hge2 => hk8 _ _ ⟨F2, fun hb => (by cases hb), fun _ => ?_⟩
  ·have hlt2 : (k : Int) < ((its.n : Nat) : Int) := of_decide_eq_true hlt2
   have hb : (k : Int) < 300 := of_decide_eq_true hb
   omega
  ·have hb : ¬ (k : Int) < 300 := of_decide_eq_false hb
   have : k = 300 := by omega
   subst this
   exact hp
  ·have hge2 : ¬ (k : Int) < ((its.n : Nat) : Int) := of_decide_eq_false hge2
   intro it hit
   refine hp it ?_
   rw [List.take_of_length_le (by omega)]
   exact List.mem_of_mem_take hit
 refine ite_ok (fun hb => ?_) fun hb => hk5 _ ⟨F3, hb2 hb⟩
 obtain ⟨hk1, hk2⟩ := hb1 hb
 obtain ⟨it, hit⟩ : ∃ it, d.items[k]? = some it := ⟨_, List.getElem?_eq_getElem hk1⟩
 refine join0_ok (fun w' => Fr noB w w' ∧ it.name.length ≤ 300) (fun k12 hk12 => ?_) fun w' ⟨F, h⟩ => hrec2 hk1 w' ⟨F, by omega, fun it' h' => ?_⟩
 rotate_left
 ·rw [List.take_add_one, hit] at h'
  rcases List.mem_append.1 h' with h' | h'
  ·exact hp it' h'
  ·have : it' = it := by simpa using h'
   rw [this]
   exact h
 refine dep_its (hD.fr F3) hd fun its2 hin2 hil2 hL2 => item_nm hL2 hit hin2 fun nm hnm hnz => ite_ok (fun _ => ⟨false, rfl, F3, fun h => by cases h⟩) fun h => hk12 _ ⟨F3, ?_⟩
 have h : ¬ ((nm.size : Nat) : Int) > 300 := of_decide_eq_false h
 have := bl_length nm
 rw [hnm] at this
 omega
theorem hits_le1 {q : Thing → Int} {D : List Dep} (hN : itemsN D ≤ 200) (n : Nat) {V : List HV3} (hV : hvs V = (sortH (hitsOf q D)).take n) : V.length ≤ 1000000 := by
 have h := congrArg List.length hV
 rw [hvs, List.length_map, List.length_take, (sortH_perm _).length_eq] at h
 have := hitsOf_len q D
 omega
variable {k2 : Int} {o2 n2 : ByteArray} {ns2 ps2 : Sl} {t : Shape}
set_option maxHeartbeats 2000000 in
theorem FinderTypes_ok (hg : Glob w) (ht : ShV w k2 o2 n2 ns2 ps2 t) (n : Int) (hD : DpR w s D) : AnsB 4 #[shArg k2 o2 n2 ns2 ps2, .int .i64 n, .slice s.a s.n s.c] w true := by
 apply c4
 unfold t4 ivZ svZ shZ kfZ ld5mZ nw5Z caBZ caLZ jnBZ
 refine new_ok fun w1 m7 hm7 hs1 B1 F1 => ?_
 change Blk w1 m7 _ (shCells k2 o2 n2 ns2 ps2) at B1
 refine call_ok (smallD_ok (hD.fr F1)) ?_
 rintro e w2 ⟨b, rfl, F2, hb⟩
 refine ⟨((b, ()), ()), rfl, ite_ok (fun h => callB_ok (awake_ok (hg.fr (F1.tr F2))) fun w3 F3 => ⟨rfl, (F1.tr F2).tr F3⟩) fun h => ?_⟩
 have hfew := hb (by simpa using h)
 have hN : itemsN D ≤ 1000000 := by have := hfew.1; omega
 have G2 := F1.tr F2
 refine join1_ok (c := .bool) (fun (b : Bool) w' => b = true ∧ Fr noB w w') (fun kj hkj => drew_ok fun w3 F3 z3 => ?_) fun b w' ⟨hb, F⟩ => ⟨by rw [hb], F⟩
 have fB : ∀ w', Fr noB w1 w' → Held w' (⟨m7, 0, none⟩, [.int .i64 k2, .string o2, .string n2, .slice ns2.a ns2.n ns2.c, .slice ps2.a ps2.n ps2.c]) := fun w' F => (B1.fr F (fun h => h)).heldV
 have B3 := B1.fr (F2.tr F3) (fun h => h)
 have G3 := G2.tr F3
 refine B3.ldV (B3.ldV (callHits_ok (ByType_ok (hD.fr G3) hN (ht.fr G3) n) fun l V w4 hV hn hS F4 => ?_))
 have H4 := (F2.tr F3).tr F4
 have G4 := G3.tr F4
 refine Stay.go (w := w1) (by repeat (first | exact Stay.nil | refine Stay.cons (by assumption) ?_)) H4 ?_
 refine callHits_ok (rByType_ok (hD.fr G4) hN (ht.fr G4) n) fun l' V' w5 hV' hn' hS' F5 => callB_ok (sameHits_ok (hS.fr F5) hn.1 hS' hn'.1 (hits_le1 hfew.1 _ hV)) fun w6 F6 => ?_
 refine ite_yes (decide_eq_true (by rw [hV, hV'])) (callB_ok (awake_ok (hg.fr ((G4.tr F5).tr F6))) fun w7 F7 => ?_)
 exact Stay.go (w := w1) (by repeat (first | exact Stay.nil | refine Stay.cons (by assumption) ?_)) (((H4.tr F5).tr F6).tr F7) (hkj _ _ ⟨rfl, ((G4.tr F5).tr F6).tr F7⟩)
set_option maxHeartbeats 2000000 in
theorem FinderNames_ok (hg : Glob w) (x : ByteArray) (hx : x.size < 4611686018427387904) (n : Int) (hD : DpR w s D) : AnsB 5 #[.string x, .int .i64 n, .slice s.a s.n s.c] w true := by
 apply c5
 unfold t5 ivZ tvZ svZ caBZ caLZ jnBZ
 refine call_ok (smallD_ok hD) ?_
 rintro e w2 ⟨b, rfl, F2, hb⟩
 refine ⟨((b, ()), ()), rfl, ite_ok (fun h => callB_ok (awake_ok (hg.fr F2)) fun w3 F3 => ⟨rfl, F2.tr F3⟩) fun h => ?_⟩
 have hfew := hb (by simpa using h)
 have hN : itemsN D ≤ 1000000 := by have := hfew.1; omega
 refine join1_ok (c := .bool) (fun (b : Bool) w' => b = true ∧ Fr noB w w') (fun kj hkj => ?_) fun b w' ⟨hb, F⟩ => ⟨by rw [hb], F⟩
 refine callHits_ok (ByName_ok (hg.fr F2) (hD.fr F2) hN hfew.2 x n) fun l V w4 hV hn hS F4 => ?_
 have G4 := F2.tr F4
 refine callHits_ok (rByName_ok (hD.fr G4) hN x hx n) fun l' V' w5 hV' hn' hS' F5 => callB_ok (sameHits_ok (hS.fr F5) hn.1 hS' hn'.1 (hits_le1 hfew.1 _ hV)) fun w6 F6 => ?_
 exact ite_yes (decide_eq_true (by rw [hV, hV'])) (callB_ok (awake_ok (hg.fr ((G4.tr F5).tr F6))) fun w7 F7 => hkj _ _ ⟨rfl, ((G4.tr F5).tr F6).tr F7⟩)
end
end Go.Proofs.YticokfpaoiekgaaGreatDoor
end
section
namespace Go.Proofs.YticokfpaoiekgaaGreatDoor
open Go.Lift Go.ChangeShapes Go.WideShapes Go.ChangeAt Go.RowKit
theorem fr_keptBut {W W' : World} (F : Fr noB W W') (may : MemPlace → Prop) : W.keptBut W' may := by
 refine ⟨F.os, F.output, fun i hi => ?_⟩
 rw [F.blk i hi (fun h => h)]
 cases W.heap[i]? with
 | none => rfl
 | some o => cases o <;> simp
theorem fr_same {W W' : World} (F : Fr noB W W') {p : MemPlace} (h : p.block < W.heap.size) : W.sameAt W' p := by
 cases p with
 | cell b off => exact World.cell?_of_block (F.blk b h (fun h => h))
 | map b => exact F.blk b h (fun h => h)
section
variable {H : Type} {enc : TypeId × Value → H} {P : Program} {T : TypeId → Prop} {W W' : World}
theorem trodAll_stays (K : Kids P T) (hz : ∀ t e, T t → P.underlying t = some (.slice e) → 0 < P.cellsOf e) (F : Fr noB W W') {sp : Nat → Bool} : ∀ {ts : List TypeId} {vs : List Value} {ds : List (DataW H)} {ps : List MemPlace}, (∀ t ∈ ts, T t) →
  DataW.TrodAll enc P W 0 (fun _ => true) true ts vs ds ps → (∀ p ∈ ps, sp p.block = true) → DataW.TrodAll enc P W' 0 sp true ts vs ds ps
 | [], [], [], _, _, h, _ => h
 | _ :: _, _ :: _, _ :: _, _, hT, ⟨p, q, ⟨n, h1⟩, h2, e⟩, hs =>
  ⟨p, q, ⟨n, DataW.trod_stays K (fun ht hu => hz _ _ ht hu) (fun h => by cases h) (hT _ (List.mem_cons.2 (Or.inl rfl))) h1 (fun x hx => fr_same F (DataW.trod_lt n _ _ _ h1 x hx)) (fun x hx => hs x (by rw [e]; exact List.mem_append_left _ hx))⟩,
   trodAll_stays K hz F (fun t ht => hT t (List.mem_cons.2 (Or.inr ht))) h2 (fun x hx => hs x (by rw [e]; exact List.mem_append_right _ hx)), e⟩
theorem post_true {f : Func} {s : ChangeSpec} {args : Array Value} {ds gs : List (DataW H)} {before : List MemPlace} {tb : TypeId} (hvs : s.vars = [])
  (hW : DataW.Whole enc P f.params.toList s.vars false W args.toList ds gs before) (hfn : s.fn H (ds ++ gs) = { results := [.lit (.bool true)], args := ds })
  (K : Kids P T) (hz : ∀ t e, T t → P.underlying t = some (.slice e) → 0 < P.cellsOf e) (hT : ∀ t ∈ f.params.toList, T t) (F : Fr noB W W')
  (hr : f.resultTypes = #[tb]) (hb : P.underlying tb = some .bool) : s.post enc P f false true false false W args (.bool true) W' := by
 have hW' := hW
 have hold : ∀ p ∈ before, (fun b => decide (b < W.heap.size)) p.block = true := fun p hp => by simpa using hW.lt p hp
 obtain ⟨p, q, hA0, hV, hpq, hfz, hnd⟩ := hW
 have hA : DataW.TrodAll enc P W 0 (fun _ => true) true f.params.toList args.toList ds p := hA0
 rw [hvs] at hV
 obtain ⟨hg0, hq0⟩ := trodVars_none hV
 have hpp : before = p := by rw [hpq, hq0, List.append_nil]
 have hargs : ∀ sp : Nat → Bool, (∀ p ∈ before, sp p.block = true) → DataW.TrodAll enc P W' 0 sp true f.params.toList args.toList ds p := fun sp hsp =>
  trodAll_stays K hz F hT hA (fun x hx => hsp x (by rw [hpp]; exact hx))
 have hres : ∀ (b : Nat) (sp : Nat → Bool) (hd : Bool), DataW.TrodAll enc P W' b sp hd f.resultTypes.toList ((Value.bool true).resultList f.resultTypes.size) [.lit (.bool true)] [] := fun b sp hd => by
  rw [hr]
  exact trodAll_cons_mk (shut_bool hb _) trodAll_mk0
 have hvars : ∀ sp : Nat → Bool, DataW.TrodVars enc P W' sp s.vars (s.fn H (ds ++ gs)).vars [] := fun sp => by
  rw [hvs, hfn]
  rfl
 refine ⟨ds, gs, before, [], p, [], hW', by rw [hfn]; exact hres _ _ _, by rw [hfn]; exact hargs _ hold, hvars _, fr_keptBut F _, fun h => by cases h⟩
end
theorem kids : Kids Tryz.prog (· < Tryz.prog.types.size) := kids_rows (by kernel_rfl) (by kernel_rfl)
theorem full : ∀ t e, t < Tryz.prog.types.size → Tryz.prog.underlying t = some (.slice e) → 0 < Tryz.prog.cellsOf e := slices_full_of Tryz.prog (by kernel_rfl)
end Go.Proofs.YticokfpaoiekgaaGreatDoor
end
section
namespace Go.Proofs.YticokfpaoiekgaaGreatDoor
open Go.Lift Go.Lex Go.Shp Go.ChangeShapes Go.WideShapes Go.RowKit Go.Deep
theorem list_choose {α : Type} {n : Nat} {P : Nat → α → Prop} (h : ∀ i, i < n → ∃ x, P i x) : ∃ l : List α, l.length = n ∧ ∀ (i : Nat) x, l[i]? = some x → P i x := by
 have : ∀ k, k ≤ n → ∃ l : List α, l.length = k ∧ ∀ (i : Nat) x, l[i]? = some x → P i x := by
  intro k
  induction k with
  | zero => intro _; exact ⟨[], rfl, fun i x h => by simp at h⟩
  | succ k ih =>
   intro hk
   obtain ⟨l, hl, hp⟩ := ih (by omega)
   obtain ⟨x, hx⟩ := h k (by omega)
   refine ⟨l ++ [x], by simp [hl], fun i y hy => ?_⟩
   by_cases hi : i < l.length
   ·rw [List.getElem?_append_left hi] at hy
    exact hp i y hy
   ·have : i = l.length := by have := (List.getElem?_eq_some_iff.1 hy).1; simp at this; omega
    subst this
    simp at hy
    subst hy
    rw [hl]
    exact hx
 exact this n (Nat.le_refl _)
theorem spot_none {w : World} {a : Addr} {v : Value} (h : w.cell? a = some v) : a.spot = none := by
 unfold World.cell? at h
 split at h
 ·split at h
  ·cases h
  ·rename_i hh
   cases hs : a.spot with
   | none => rfl
   | some _ => rw [hs] at hh; exact absurd rfl hh
 ·cases h
section
variable {H : Type} {enc : TypeId × Value → H} {w : World}
theorem mem_all {P : Program} {e : TypeId} : ∀ {l : List (DataW H)} {d : DataW H} {y : Nat}, d ∈ l → y ∈ d.weights P e → y ∈ DataW.weightsAll P e l
 | x :: r, d, y, h, hy => by
  unfold DataW.weightsAll
  rcases List.mem_cons.1 h with rfl | h
  ·exact List.mem_append_left _ hy
  ·exact List.mem_append_right _ (mem_all h hy)
theorem uRowS : Tryz.prog.underlying 22 = some (.slice 9) := by kernel_rfl
theorem uRowP : Tryz.prog.underlying 23 = some (.slice 25) := by kernel_rfl
theorem uRowI : Tryz.prog.underlying 40 = some (.slice 44) := by kernel_rfl
theorem uRowD : Tryz.prog.underlying 29 = some (.slice 42) := by kernel_rfl
theorem uI : Tryz.prog.underlying 3 = some (.int .i64) := by kernel_rfl
theorem uS : Tryz.prog.underlying 9 = some .string := by kernel_rfl
theorem nI : Tryz.prog.cellsOf 3 = 1 := by kernel_rfl
theorem nS : Tryz.prog.cellsOf 9 = 1 := by kernel_rfl
theorem nRS : Tryz.prog.cellsOf 22 = 1 := by kernel_rfl
theorem nRP : Tryz.prog.cellsOf 23 = 1 := by kernel_rfl
theorem nRI : Tryz.prog.cellsOf 40 = 1 := by kernel_rfl
theorem nP : Tryz.prog.cellsOf 25 = 5 := by kernel_rfl
theorem nIt : Tryz.prog.cellsOf 44 = 7 := by kernel_rfl
theorem nD : Tryz.prog.cellsOf 42 = 2 := by kernel_rfl
theorem bS : Tryz.prog.bytesOf 9 = 16 := by kernel_rfl
theorem bP : Tryz.prog.bytesOf 25 = 88 := by kernel_rfl
theorem bI : Tryz.prog.bytesOf 44 = 112 := by kernel_rfl
theorem bD : Tryz.prog.bytesOf 42 = 40 := by kernel_rfl
theorem fieldsP : ∃ f0 f1 f2 f3 f4 : Field, Tryz.prog.underlying 25 = some (.struct #[f0, f1, f2, f3, f4]) ∧ (f0.offset = 0 ∧ f0.type = 3) ∧ (f1.offset = 1 ∧ f1.type = 9) ∧ (f2.offset = 2 ∧ f2.type = 9) ∧ (f3.offset = 3 ∧ f3.type = 22) ∧ (f4.offset = 4 ∧ f4.type = 23) := by
 have h : (Tryz.prog.underlying 25).map (fun d => match d with | .struct fs => fs.toList.map (fun f => (f.offset, f.type)) | _ => []) = some [(0, 3), (1, 9), (2, 9), (3, 22), (4, 23)] := by kernel_rfl
 cases hd : Tryz.prog.underlying 25 with
 | none => rw [hd] at h; cases h
 | some d =>
  rw [hd] at h
  cases d with
  | struct fs =>
   obtain ⟨l⟩ := fs
   match l with
   | [f0, f1, f2, f3, f4] => simp at h; exact ⟨f0, f1, f2, f3, f4, rfl, h.1, h.2.1, h.2.2.1, h.2.2.2.1, h.2.2.2.2⟩
   | [] => simp at h
   | [_] => simp at h
   | [_, _] => simp at h
   | [_, _, _] => simp at h
   | [_, _, _, _] => simp at h
   | _ :: _ :: _ :: _ :: _ :: _ :: _ => simp at h
  | _ => simp at h
theorem reach_eq : reachBytes = 140737488351232 := rfl
theorem trodAll_nil {P : Program} {vs : List Value} {ds : List (DataW H)} {ps : List MemPlace} (h : DataW.TrodAll enc P w 0 (fun _ => true) true [] vs ds ps) : vs = [] ∧ ds = [] := by
 cases vs <;> cases ds <;> simp [DataW.TrodAll] at h
 exact ⟨rfl, rfl⟩
theorem open_strs {fuel : Nat} {cs : List Value} {x : DataW H × List MemPlace} (h : DataW.trod enc Tryz.prog w 0 (fun _ => true) true fuel 22 cs = some x) (hb : ∀ y ∈ x.1.weights Tryz.prog 22, y ≤ reachBytes) :
  ∃ (s : Sl) (names : List B), cs = [.slice s.a s.n s.c] ∧ RdS w s (names.map bs) ∧ names.length < 4611686018427387904 ∧ ∀ y ∈ names, y.length < 4611686018427387904 := by
 rcases DataW.trod_slice uRowS h with ⟨rfl, _⟩ | ⟨a, len, cap, elems, rest, n, _, rfl, rfl, _, hl, hm, hlen, hel, _, _⟩
 ·exact ⟨⟨none, 0, 0⟩, [], rfl, ⟨rfl, fun k x h => by simp at h⟩, by simp, fun y h => by simp at h⟩
 ·rw [nS] at hel
  have hw : DataW.weights Tryz.prog 22 (.slice (elems.map (·.1)) (rest.map (·.1)) : DataW H) = ((elems.map (·.1)).length + (rest.map (·.1)).length) * Tryz.prog.bytesOf 9 :: (DataW.weightsAll Tryz.prog 9 (elems.map (·.1)) ++ DataW.weightsAll Tryz.prog 9 (rest.map (·.1))) := by
   unfold DataW.weights
   rw [uRowS]
  dsimp only at hb
  rw [hw, bS, List.length_map, List.length_map] at hb
  have hb0 := hb _ (List.mem_cons_self ..)
  rw [reach_eq] at hb0
  have each : ∀ i, i < len → ∃ y : B, w.cell? (a.add (i * 1)) = some (.string (bs y)) ∧ y.length ≤ reachBytes := fun i hi => by
   obtain ⟨e, he⟩ : ∃ e, elems[i]? = some e := ⟨_, List.getElem?_eq_getElem (by omega)⟩
   have h1 := hel i hi
   rw [he, Option.bind_eq_some_iff] at h1
   obtain ⟨cs', hc, ht⟩ := h1
   obtain ⟨s, rfl, rfl, _⟩ := DataW.trod_string uS ht
   obtain ⟨_, _, hcell⟩ := World.cells?_some hc
   refine ⟨bl s, ?_, ?_⟩
   ·have := hcell 0 (by omega)
    rw [Addr.add_zero'] at this
    rw [this]
    show some (Value.string s) = _
    rw [bs_bl]
   ·refine hb _ (List.mem_cons_of_mem _ (List.mem_append_left _ (mem_all (d := .lit (.string s.data.toList)) ?_ ?_)))
    ·exact List.mem_map.2 ⟨_, List.mem_of_getElem? he, rfl⟩
    ·unfold DataW.weights
     exact List.mem_singleton.2 rfl
  obtain ⟨names, hn, hp⟩ := list_choose each
  refine ⟨⟨some a, len, cap⟩, names, rfl, ⟨by rw [List.length_map]; exact hn.symm, fun k x hx => ?_⟩, by omega, fun y hy => ?_⟩
  ·rw [List.getElem?_map] at hx
   cases hy : names[k]? with
   | none => rw [hy] at hx; cases hx
   | some y =>
    rw [hy] at hx
    cases hx
    exact ⟨a, rfl, (hp k y hy).1⟩
  ·obtain ⟨j, hj⟩ := List.mem_iff_getElem?.1 hy
   have := (hp j y hj).2
   rw [reach_eq] at this
   omega
theorem w_str (P : Program) (t : TypeId) (l : List UInt8) : DataW.weights P t (.lit (.string l) : DataW H) = [l.length] := by unfold DataW.weights; rfl
set_option maxRecDepth 100000 in
theorem open_shapeC : ∀ (fuel : Nat) {cs : List Value} {x : DataW H × List MemPlace}, DataW.trod enc Tryz.prog w 0 (fun _ => true) true fuel 25 cs = some x → (∀ y ∈ x.1.weights Tryz.prog 25, y ≤ reachBytes) →
  ∃ (k : Int) (o n : ByteArray) (ns ps : Sl) (s : Shape), cs = shCells k o n ns ps ∧ ShV w k o n ns ps s := by
 intro fuel
 induction fuel using Nat.strongRecOn with
 | _ fuel ih =>
  intro cs x h hb
  obtain ⟨f0, f1, f2, f3, f4, hs, ⟨o0, t0⟩, ⟨o1, t1⟩, ⟨o2, t2⟩, ⟨o3, t3⟩, ⟨o4, t4⟩⟩ := fieldsP
  obtain ⟨xs, kf, rfl, rfl, hcl, hxl, hf⟩ := DataW.trod_struct hs h
  rw [nP] at hcl
  match xs, hxl, cs, hcl with
  | [y0, y1, y2, y3, y4], _, [v0, v1, v2, v3, v4], _ =>
   have g0 := hf 0 f0 rfl
   have g1 := hf 1 f1 rfl
   have g2 := hf 2 f2 rfl
   have g3 := hf 3 f3 rfl
   have g4 := hf 4 f4 rfl
   simp [o0, t0, nI] at g0
   simp [o1, t1, nS] at g1
   simp [o2, t2, nS] at g2
   simp [o3, t3, nRS] at g3
   simp [o4, t4, nRP] at g4
   obtain ⟨z0, e0, _, _⟩ := DataW.trod_int uI g0
   obtain ⟨s1, e1, ex1, _⟩ := DataW.trod_string uS g1
   obtain ⟨s2, e2, ex2, _⟩ := DataW.trod_string uS g2
   simp only [List.cons.injEq, and_true] at e0 e1 e2
   subst e0 e1 e2
   have hw : DataW.weights Tryz.prog 25 (.agg (List.map (·.1) [y0, y1, y2, y3, y4]) : DataW H) = y0.1.weights Tryz.prog 3 ++ (y1.1.weights Tryz.prog 9 ++ (y2.1.weights Tryz.prog 9 ++ (y3.1.weights Tryz.prog 22 ++ (y4.1.weights Tryz.prog 23 ++ [])))) := by
    conv => lhs; unfold DataW.weights
    rw [hs]
    simp only [List.map_cons, List.map_nil, t0, t1, t2, t3, t4, DataW.weightsEach]
   dsimp only at hb
   rw [hw] at hb
   have hb1 : ∀ y ∈ y1.1.weights Tryz.prog 9, y ≤ reachBytes := fun y hy => hb y (by simp [hy])
   have hb2 : ∀ y ∈ y2.1.weights Tryz.prog 9, y ≤ reachBytes := fun y hy => hb y (by simp [hy])
   have hb3 : ∀ y ∈ y3.1.weights Tryz.prog 22, y ≤ reachBytes := fun y hy => hb y (by simp [hy])
   have hb4 : ∀ y ∈ y4.1.weights Tryz.prog 23, y ≤ reachBytes := fun y hy => hb y (by simp [hy])
   rw [ex1] at hb1
   rw [ex2] at hb2
   have hs1 := hb1 _ (by rw [w_str]; exact List.mem_singleton.2 rfl)
   have hs2 := hb2 _ (by rw [w_str]; exact List.mem_singleton.2 rfl)
   have es1 : s1.data.toList.length = s1.size := Array.length_toList
   have es2 : s2.data.toList.length = s2.size := Array.length_toList
   rw [reach_eq] at hs1 hs2
   obtain ⟨ns, names, e3, hR, hnl, hnz⟩ := open_strs g3 hb3
   simp only [List.cons.injEq, and_true] at e3
   subst e3
   rcases DataW.trod_slice uRowP g4 with ⟨e4, _⟩ | ⟨a, len, cap, elems, rest, n, hn, e4, ex4, _, hl, hm, hlen, hel, _, _⟩
   ·simp only [List.cons.injEq, and_true] at e4
    subst e4
    refine ⟨z0, s1, s2, ns, ⟨none, 0, 0⟩, .mk z0 (bl s1) (bl s2) names [], rfl, ?_⟩
    unfold ShV
    refine ⟨rfl, rfl, rfl, ⟨hR, hnl, rfl, by simp, by omega, by omega, hnz⟩, ?_⟩
    unfold ShL
    trivial
   ·simp only [List.cons.injEq, and_true] at e4
    subst e4
    rw [nP] at hel
    rw [ex4] at hb4
    have hw4 : DataW.weights Tryz.prog 23 (.slice (elems.map (·.1)) (rest.map (·.1)) : DataW H) = ((elems.map (·.1)).length + (rest.map (·.1)).length) * Tryz.prog.bytesOf 25 :: (DataW.weightsAll Tryz.prog 25 (elems.map (·.1)) ++ DataW.weightsAll Tryz.prog 25 (rest.map (·.1))) := by
     conv => lhs; unfold DataW.weights
     rw [uRowP]
    dsimp only at hb4
    rw [hw4, bP, List.length_map, List.length_map] at hb4
    have hb40 := hb4 _ (List.mem_cons_self ..)
    rw [reach_eq] at hb40
    have each : ∀ i, i < len → ∃ q : (Int × ByteArray × ByteArray × Sl × Sl) × Shape, Held w (a.add (i * 5), shCells q.1.1 q.1.2.1 q.1.2.2.1 q.1.2.2.2.1 q.1.2.2.2.2) ∧ ShV w q.1.1 q.1.2.1 q.1.2.2.1 q.1.2.2.2.1 q.1.2.2.2.2 q.2 := fun i hi => by
     obtain ⟨e, he⟩ : ∃ e, elems[i]? = some e := ⟨_, List.getElem?_eq_getElem (by omega)⟩
     have h1 := hel i hi
     rw [he, Option.bind_eq_some_iff] at h1
     obtain ⟨cs', hc, ht⟩ := h1
     obtain ⟨k', o', n', ns', ps', s', rfl, hv⟩ := ih n (by omega) ht fun y hy => hb4 y (List.mem_cons_of_mem _ (List.mem_append_left _ (mem_all (d := e.1) (List.mem_map.2 ⟨_, List.mem_of_getElem? he, rfl⟩) hy)))
     obtain ⟨_, _, hcell⟩ := World.cells?_some hc
     refine ⟨((k', o', n', ns', ps'), s'), fun j u hj => ?_, hv⟩
     have hj5 : j < 5 := (List.getElem?_eq_some_iff.1 hj).1
     rw [hcell j hj5]
     exact hj
    obtain ⟨L, hL, hp⟩ := list_choose each
    refine ⟨z0, s1, s2, ns, ⟨some a, len, cap⟩, .mk z0 (bl s1) (bl s2) names (L.map (·.2)), rfl, ?_⟩
    unfold ShV
    refine ⟨rfl, rfl, rfl, ⟨hR, hnl, by rw [List.length_map]; exact hL.symm, by rw [List.length_map]; omega, by omega, by omega, hnz⟩, ?_⟩
    refine shL_of fun j s hj => ?_
    rw [List.getElem?_map] at hj
    cases hq : L[j]? with
    | none => rw [hq] at hj; cases hj
    | some q =>
     rw [hq] at hj
     cases hj
     obtain ⟨hh, hv⟩ := hp j q hq
     have hsp : a.spot = none := by
      have hj1 := (List.getElem?_eq_some_iff.1 hq).1
      obtain ⟨q0, hq0⟩ : ∃ q0, L[0]? = some q0 := ⟨_, List.getElem?_eq_getElem (by omega)⟩
      have hc0 := (hp 0 q0 hq0).1 0 _ rfl
      rw [Nat.zero_mul, Addr.add_zero', Addr.add_zero'] at hc0
      exact spot_none hc0
     obtain ⟨b, o, sp⟩ := a
     change sp = none at hsp
     subst hsp
     have at' : ∀ c u, (shCells q.1.1 q.1.2.1 q.1.2.2.1 q.1.2.2.2.1 q.1.2.2.2.2)[c]? = some u → w.cell? ⟨b, o + (0 + j) * 5 + c, none⟩ = some u := fun c u hu => by
      have := hh c u hu
      rw [Addr.add_lit, Addr.add_lit] at this
      rw [Nat.zero_add]
      exact this
     exact ⟨b, o, q.1.1, q.1.2.1, q.1.2.2.1, q.1.2.2.2.1, q.1.2.2.2.2, rfl, at' 0 _ rfl, at' 1 _ rfl, at' 2 _ rfl, at' 3 _ rfl, at' 4 _ rfl, hv⟩
theorem open_shape {v : Value} {d : DataW H} {p : List MemPlace} (h : DataW.Trod enc Tryz.prog w 0 (fun _ => true) true 25 v d p) (hb : ∀ y ∈ d.weights Tryz.prog 25, y ≤ reachBytes) :
  ∃ (k : Int) (o n : ByteArray) (ns ps : Sl) (s : Shape), v = shArg k o n ns ps ∧ ShV w k o n ns ps s := by
 obtain ⟨fuel, hf⟩ := h
 obtain ⟨k, o, n, ns, ps, s, hcs, hv⟩ := open_shapeC fuel hf hb
 refine ⟨k, o, n, ns, ps, s, ?_, hv⟩
 cases v with
 | agg xs =>
  obtain ⟨l⟩ := xs
  have : l = shCells k o n ns ps := hcs
  subst this
  rfl
 | _ => exact absurd (congrArg List.length hcs) (by simp [Value.cells, shCells])
end
end Go.Proofs.YticokfpaoiekgaaGreatDoor
end
