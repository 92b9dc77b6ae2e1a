/- The law behind: one part of its proof (joined by program out of my own texts). No condition. -/
import Derived.Test.YtngfnokbdcjoeaaGreatDoorVatAT
import Derived.Deep.Slices
import Derived.Deep.SlicePairs
import Derived.Tactics
import Derived.Tactics2
import Derived.Defers
import Derived.Laws.Pointers
import Derived.Laws.LoneSync
import Derived.RegionTactic
import Derived.RegionCalls
import Derived.ChangeAlike
section
namespace Go.Proofs.YtngfnokbdcjoeaaGreatDoor
open Go.Lift Go.Lex Go.Shp Go.ChangeShapes Go.WideShapes Go.RowKit Go.Deep
theorem list_choose {α : Type} {n : Nat} {P : Nat → α → Prop} (h : ∀ i, i < n → ∃ x, P i x) : ∃ l : List α, l.length = n ∧ ∀ (i : Nat) x, l[i]? = some x → P i x := by
 have : ∀ k, k ≤ n → ∃ l : List α, l.length = k ∧ ∀ (i : Nat) x, l[i]? = some x → P i x := by
  intro k
  induction k with
  | zero => intro _; exact ⟨[], rfl, fun i x h => by simp at h⟩
  | succ k ih =>
   intro hk
   obtain ⟨l, hl, hp⟩ := ih (by omega)
   obtain ⟨x, hx⟩ := h k (by omega)
   refine ⟨l ++ [x], by simp [hl], fun i y hy => ?_⟩
   by_cases hi : i < l.length
   ·rw [List.getElem?_append_left hi] at hy
    exact hp i y hy
   ·have : i = l.length := by have := (List.getElem?_eq_some_iff.1 hy).1; simp at this; omega
    subst this
    simp at hy
    subst hy
    rw [hl]
    exact hx
 exact this n (Nat.le_refl _)
theorem spot_none {w : World} {a : Addr} {v : Value} (h : w.cell? a = some v) : a.spot = none := by
 unfold World.cell? at h
 split at h
 ·split at h
  ·cases h
  ·rename_i hh
   cases hs : a.spot with
   | none => rfl
   | some _ => rw [hs] at hh; exact absurd rfl hh
 ·cases h
section
variable {H : Type} {enc : TypeId × Value → H} {w : World}
theorem mem_all {P : Program} {e : TypeId} : ∀ {l : List (DataW H)} {d : DataW H} {y : Nat}, d ∈ l → y ∈ d.weights P e → y ∈ DataW.weightsAll P e l
 | x :: r, d, y, h, hy => by
  unfold DataW.weightsAll
  rcases List.mem_cons.1 h with rfl | h
  ·exact List.mem_append_left _ hy
  ·exact List.mem_append_right _ (mem_all h hy)
theorem uRowS : Tryz.prog.underlying 22 = some (.slice 9) := by kernel_rfl
theorem uI : Tryz.prog.underlying 3 = some (.int .i64) := by kernel_rfl
theorem uS : Tryz.prog.underlying 9 = some .string := by kernel_rfl
theorem nI : Tryz.prog.cellsOf 3 = 1 := by kernel_rfl
theorem nS : Tryz.prog.cellsOf 9 = 1 := by kernel_rfl
theorem nRS : Tryz.prog.cellsOf 22 = 1 := by kernel_rfl
theorem bS : Tryz.prog.bytesOf 9 = 16 := by kernel_rfl
theorem nRV : Tryz.prog.cellsOf 23 = 1 := by kernel_rfl
theorem nV : Tryz.prog.cellsOf 25 = 6 := by kernel_rfl
theorem bV : Tryz.prog.bytesOf 25 = 96 := by kernel_rfl
theorem uRowV : Tryz.prog.underlying 23 = some (.slice 25) := by kernel_rfl
theorem fieldsV : ∃ f0 f9 f1 f2 f3 f4 : Field, Tryz.prog.underlying 25 = some (.struct #[f0, f9, f1, f2, f3, f4]) ∧ (f0.offset = 0 ∧ f0.type = 3) ∧ (f9.offset = 1 ∧ f9.type = 2) ∧ (f1.offset = 2 ∧ f1.type = 9) ∧ (f2.offset = 3 ∧ f2.type = 9) ∧ (f3.offset = 4 ∧ f3.type = 22) ∧ (f4.offset = 5 ∧ f4.type = 23) := by
 have h : (Tryz.prog.underlying 25).map (fun d => match d with | .struct fs => fs.toList.map (fun f => (f.offset, f.type)) | _ => []) = some [(0, 3), (1, 2), (2, 9), (3, 9), (4, 22), (5, 23)] := by kernel_rfl
 cases hd : Tryz.prog.underlying 25 with
 | none => rw [hd] at h; cases h
 | some d =>
  rw [hd] at h
  cases d with
  | struct fs =>
   obtain ⟨l⟩ := fs
   match l with
   | [f0, f9, f1, f2, f3, f4] => simp at h; exact ⟨f0, f9, f1, f2, f3, f4, rfl, h.1, h.2.1, h.2.2.1, h.2.2.2.1, h.2.2.2.2.1, h.2.2.2.2.2⟩
   | [] => simp at h
   | [_] => simp at h
   | [_, _] => simp at h
   | [_, _, _] => simp at h
   | [_, _, _, _] => simp at h
   | [_, _, _, _, _] => simp at h
   | _ :: _ :: _ :: _ :: _ :: _ :: _ :: _ => simp at h
  | _ => simp at h
theorem uI64 : Tryz.prog.underlying 2 = some (.int .i64) := by kernel_rfl
theorem nI64 : Tryz.prog.cellsOf 2 = 1 := by kernel_rfl
theorem bP : Tryz.prog.bytesOf 36 = 88 := by kernel_rfl
theorem reach_eq : reachBytes = 140737488351232 := rfl
theorem trodAll_nil {P : Program} {vs : List Value} {ds : List (DataW H)} {ps : List MemPlace} (h : DataW.TrodAll enc P w 0 (fun _ => true) true [] vs ds ps) : vs = [] ∧ ds = [] := by
 cases vs <;> cases ds <;> simp [DataW.TrodAll] at h
 exact ⟨rfl, rfl⟩
theorem open_strs {fuel : Nat} {cs : List Value} {x : DataW H × List MemPlace} (h : DataW.trod enc Tryz.prog w 0 (fun _ => true) true fuel 22 cs = some x) (hb : ∀ y ∈ x.1.weights Tryz.prog 22, y ≤ reachBytes) :
  ∃ (s : Sl) (names : List B), cs = [.slice s.a s.n s.c] ∧ RdS w s (names.map bs) ∧ names.length < 4611686018427387904 ∧ (∀ y ∈ names, y.length < 4611686018427387904) ∧ names.length * 16 ≤ 140737488351232 := by
 rcases DataW.trod_slice uRowS h with ⟨rfl, _⟩ | ⟨a, len, cap, elems, rest, n, _, rfl, rfl, _, hl, hm, hlen, hel, _, _⟩
 ·exact ⟨⟨none, 0, 0⟩, [], rfl, ⟨rfl, fun k x h => by simp at h⟩, by simp, fun y h => (by simp at h), by simp⟩
 ·rw [nS] at hel
  have hw : DataW.weights Tryz.prog 22 (.slice (elems.map (·.1)) (rest.map (·.1)) : DataW H) = ((elems.map (·.1)).length + (rest.map (·.1)).length) * Tryz.prog.bytesOf 9 :: (DataW.weightsAll Tryz.prog 9 (elems.map (·.1)) ++ DataW.weightsAll Tryz.prog 9 (rest.map (·.1))) := by
   unfold DataW.weights
   rw [uRowS]
  dsimp only at hb
  rw [hw, bS, List.length_map, List.length_map] at hb
  have hb0 := hb _ (List.mem_cons_self ..)
  rw [reach_eq] at hb0
  have each : ∀ i, i < len → ∃ y : B, w.cell? (a.add (i * 1)) = some (.string (bs y)) ∧ y.length ≤ reachBytes := fun i hi => by
   obtain ⟨e, he⟩ : ∃ e, elems[i]? = some e := ⟨_, List.getElem?_eq_getElem (by omega)⟩
   have h1 := hel i hi
   rw [he, Option.bind_eq_some_iff] at h1
   obtain ⟨cs', hc, ht⟩ := h1
   obtain ⟨s, rfl, rfl, _⟩ := DataW.trod_string uS ht
   obtain ⟨_, _, hcell⟩ := World.cells?_some hc
   refine ⟨bl s, ?_, ?_⟩
   ·have := hcell 0 (by omega)
    rw [Addr.add_zero'] at this
    rw [this]
    show some (Value.string s) = _
    rw [bs_bl]
   ·refine hb _ (List.mem_cons_of_mem _ (List.mem_append_left _ (mem_all (d := .lit (.string s.data.toList)) ?_ ?_)))
    ·exact List.mem_map.2 ⟨_, List.mem_of_getElem? he, rfl⟩
    ·unfold DataW.weights
     exact List.mem_singleton.2 rfl
  obtain ⟨names, hn, hp⟩ := list_choose each
  refine ⟨⟨some a, len, cap⟩, names, rfl, ⟨by rw [List.length_map]; exact hn.symm, fun k x hx => ?_⟩, by omega, fun y hy => ?_, by omega⟩
  ·rw [List.getElem?_map] at hx
   cases hy : names[k]? with
   | none => rw [hy] at hx; cases hx
   | some y =>
    rw [hy] at hx
    cases hx
    exact ⟨a, rfl, (hp k y hy).1⟩
  ·obtain ⟨j, hj⟩ := List.mem_iff_getElem?.1 hy
   have := (hp j y hj).2
   rw [reach_eq] at this
   omega
theorem w_str (P : Program) (t : TypeId) (l : List UInt8) : DataW.weights P t (.lit (.string l) : DataW H) = [l.length] := by unfold DataW.weights; rfl
end
end Go.Proofs.YtngfnokbdcjoeaaGreatDoor
end
section
namespace Go.Shp
open Go.Lex
mutual
def vtP (P : B → Prop) : Shape → Prop
 | .mk q _ t _ ps => (kOf q = 2 → P t) ∧ vtPs P ps
def vtPs (P : B → Prop) : List Shape → Prop
 | [] => True
 | s :: r => vtP P s ∧ vtPs P r
end
theorem vtPs_mem {P : B → Prop} : ∀ {l : List Shape}, vtPs P l → ∀ s ∈ l, vtP P s
 | [], _, s, h => by cases h
 | a :: r, h, s, hs => by
  rw [vtPs] at h
  rcases List.mem_cons.1 hs with rfl | hs
  ·exact h.1
  ·exact vtPs_mem h.2 s hs
theorem vquots_all : ∀ l : List Shape, vquots l = l.all vquot
 | [] => by rw [vquots]; rfl
 | s :: r => by rw [vquots, vquots_all r]; rfl
end Go.Shp
namespace Go.Proofs.YtngfnokbdcjoeaaGreatDoor
open Go.Lift Go.Lex Go.Shp
def QuotC (t : B) : Prop := ∀ {w : World} {x : ByteArray}, Glob w → bl x = t → Calls Tryz.prog 62 #[.string x] w fun e w' => ∃ r : ByteArray, e = .returned (.tuple #[.string r, .bool (show1 4 t).isSome]) ∧ (∀ q, show1 4 t = some q → bl r = q) ∧ Fr noB w w'
theorem resQuotable : (resOf Tryz.prog 37).isSome = true := by kernel_rfl
set_option maxHeartbeats 2000000 in
theorem quotable_ok : ∀ (d : Nat) (s : Shape), size s ≤ d → vtP QuotC s → ∀ {w : World} {k z : Int} {o n : ByteArray} {ns ps : Sl}, Glob w → VaV w k z o n ns ps s → AnsB 37 #[vaArg k z o n ns ps] w (vquot s)
 | 0, s, h, _, _, _, _, _, _, _, _, _, _ => by have := size_pos s; omega
 | d + 1, .mk q o' n' names parts, hd, hq, w, k, z, o, n, ns, ps, hg, hv => by
  rw [size_mk] at hd
  rw [vtP] at hq
  obtain ⟨ek, _, en, ⟨hz, _, _, hpn, hpl, _⟩, hps⟩ := hv.parts
  change q = vk k z at ek
  change bl n = n' at en
  change ps.n = parts.length at hpn
  change parts.length < 4611686018427387904 at hpl
  change VaL w ps.a 0 parts at hps
  have hk : kOf q = k := by rw [ek]; exact kOf_vk hz.1 hz.2
  apply c37
  unfold t37 tvZ svZ ldIZ ldSZ ldLZ nw6Z caBZ caZ jn0Z
  refine new_ok fun w1 m5 hm5 hs1 B1 F1 => ?_
  change Blk w1 m5 _ (vaCells k z o n ns ps) at B1
  have hf : vquot (.mk q o' n' names parts) = ((decide (kOf q ≠ 2) || (show1 4 n').isSome) && parts.all vquot) := by rw [vquot, vquots_all]
  refine B1.ld (c := .int .i64) (x := k) (o := 0) rfl ?_
  refine join0_ok (fun w' => (decide (kOf q ≠ 2) || (show1 4 n').isSome) = true ∧ Fr noB w1 w') (fun kj hkj => ite_ok (fun h => ?_) fun h => hkj _ ⟨?_, Fr.refl _ _⟩) fun w2 ⟨h, F2⟩ => ?_
  ·have h : k = 2 := by simpa using h
   refine B1.ld (c := .str) (x := n) (o := 3) rfl (call_ok (hq.1 (by omega) (hg.fr F1) en) ?_)
   rintro e w2 ⟨r, rfl, _, F2⟩
   refine ⟨((r, ()), ((_, ()), ())), rfl, ite_ok (fun hb => ⟨?_, F1.tr F2⟩) fun hb => hkj _ ⟨?_, F2⟩⟩
   ·have hb : (show1 4 n').isSome = false := by simpa using hb
    rw [hf, hb, hk, h]
    rfl
   ·have hb : (show1 4 n').isSome = true := by simpa using hb
    rw [hb, Bool.or_true]
  ·have h : k ≠ 2 := by simpa using h
   rw [decide_eq_true (by omega)]
   rfl
  ·refine (B1.fr F2 (fun h => h)).ldS (o := 5) rfl (callB_ok (everyV_ok (p := vquot) (hps.fr (F1.tr F2)) hpn hpl ⟨_, #[], rfl, resQuotable, fun w3 F3 k z o n ns ps s hv hs => ?_⟩) fun w4 F4 => ⟨by rw [hf, h]; rfl, (F1.tr F2).tr F4⟩)
   rw [Array.append_empty]
   have := size_mem hs
   exact quotable_ok d s (by omega) (vtPs_mem hq.2 s hs) ((hg.fr (F1.tr F2)).fr F3) hv
end Go.Proofs.YtngfnokbdcjoeaaGreatDoor
end
section
namespace Go.Shp
open Go.Lex
def T47 (t : B) : Prop := t.length ≤ 140737488351232
theorem vtPs_of {P : B → Prop} : ∀ {l : List Shape}, (∀ s ∈ l, vtP P s) → vtPs P l
 | [], _ => by rw [vtPs]; trivial
 | s :: r, h => by rw [vtPs]; exact ⟨h s List.mem_cons_self, vtPs_of fun x hx => h x (List.mem_cons_of_mem _ hx)⟩
theorem vtP_sort {P : B → Prop} : ∀ (d : Nat) (s : Shape), size s ≤ d → vtP P s → vtP P (sortS s)
 | 0, s, h, _ => by have := size_pos s; omega
 | d + 1, .mk k o n ns ps, hd, h => by
  rw [size_mk] at hd
  rw [vtP] at h
  have hl : ∀ s ∈ sortL ps, vtP P s := fun s hs => by
   rw [sortL_map] at hs
   obtain ⟨p, hp, rfl⟩ := List.mem_map.1 hs
   exact vtP_sort d p (by have := size_mem hp; omega) (vtPs_mem h.2 p hp)
  rw [sortS]
  split
  ·rw [vtP]
   exact ⟨h.1, vtPs_of hl⟩
  ·rw [vtP]
   refine ⟨h.1, vtPs_of fun s hs => ?_⟩
   obtain ⟨⟨m, p⟩, hp, rfl⟩ := List.mem_map.1 hs
   exact hl p (List.of_mem_zip ((sortP_perm _).mem_iff.1 hp)).2
mutual
theorem vtP_mono {P Q : B → Prop} (h : ∀ t, P t → Q t) : ∀ {s : Shape}, vtP P s → vtP Q s
 | .mk _ _ _ _ _, hs => by
  rw [vtP] at hs ⊢
  exact ⟨fun hk => h _ (hs.1 hk), vtPs_mono h hs.2⟩
theorem vtPs_mono {P Q : B → Prop} (h : ∀ t, P t → Q t) : ∀ {l : List Shape}, vtPs P l → vtPs Q l
 | [], _ => by rw [vtPs]; trivial
 | _ :: _, hs => by
  rw [vtPs] at hs ⊢
  exact ⟨vtP_mono h hs.1, vtPs_mono h hs.2⟩
end
end Go.Shp
namespace Go.Proofs.YtngfnokbdcjoeaaGreatDoor
open Go.Lift Go.Lex Go.Shp Go.ChangeShapes Go.WideShapes Go.RowKit Go.Deep
section
variable {H : Type} {enc : TypeId × Value → H} {w : World}
set_option maxRecDepth 100000 in
theorem open_valueTC : ∀ (fuel : Nat) {cs : List Value} {x : DataW H × List MemPlace}, DataW.trod enc Tryz.prog w 0 (fun _ => true) true fuel 25 cs = some x → (∀ y ∈ x.1.weights Tryz.prog 25, y ≤ reachBytes) →
  ∃ (k z : Int) (o n : ByteArray) (ns ps : Sl) (s : Shape), cs = vaCells k z o n ns ps ∧ VaV w k z o n ns ps s ∧ vtP T47 s := by
 intro fuel
 induction fuel using Nat.strongRecOn with
 | _ fuel ih =>
  intro cs x h hb
  obtain ⟨f0, f9, f1, f2, f3, f4, hs, ⟨o0, t0⟩, ⟨o9, t9⟩, ⟨o1, t1⟩, ⟨o2, t2⟩, ⟨o3, t3⟩, ⟨o4, t4⟩⟩ := fieldsV
  obtain ⟨xs, kf, rfl, rfl, hcl, hxl, hf⟩ := DataW.trod_struct hs h
  rw [nV] at hcl
  match xs, hxl, cs, hcl with
  | [y0, y9, y1, y2, y3, y4], _, [v0, v9, v1, v2, v3, v4], _ =>
   have g0 := hf 0 f0 rfl
   have g9 := hf 1 f9 rfl
   have g1 := hf 2 f1 rfl
   have g2 := hf 3 f2 rfl
   have g3 := hf 4 f3 rfl
   have g4 := hf 5 f4 rfl
   simp [o0, t0, nI] at g0
   simp [o9, t9, nI64] at g9
   simp [o1, t1, nS] at g1
   simp [o2, t2, nS] at g2
   simp [o3, t3, nRS] at g3
   simp [o4, t4, nRV] at g4
   obtain ⟨z0, e0, _, _⟩ := DataW.trod_int uI g0
   obtain ⟨z9, e9, _, w9⟩ := DataW.trod_int uI64 g9
   have hz9 : okN z9 := by
    have h := w9
    simp [Lit.wf] at h
    exact h
   obtain ⟨s1, e1, ex1, _⟩ := DataW.trod_string uS g1
   obtain ⟨s2, e2, ex2, _⟩ := DataW.trod_string uS g2
   simp only [List.cons.injEq, and_true] at e0 e9 e1 e2
   subst e0 e9 e1 e2
   have hw : DataW.weights Tryz.prog 25 (.agg (List.map (·.1) [y0, y9, y1, y2, y3, y4]) : DataW H) = y0.1.weights Tryz.prog 3 ++ (y9.1.weights Tryz.prog 2 ++ (y1.1.weights Tryz.prog 9 ++ (y2.1.weights Tryz.prog 9 ++ (y3.1.weights Tryz.prog 22 ++ (y4.1.weights Tryz.prog 23 ++ []))))) := by
    conv => lhs; unfold DataW.weights
    rw [hs]
    simp only [List.map_cons, List.map_nil, t0, t9, t1, t2, t3, t4, DataW.weightsEach]
   dsimp only at hb
   rw [hw] at hb
   have hb1 : ∀ y ∈ y1.1.weights Tryz.prog 9, y ≤ reachBytes := fun y hy => hb y (by simp [hy])
   have hb2 : ∀ y ∈ y2.1.weights Tryz.prog 9, y ≤ reachBytes := fun y hy => hb y (by simp [hy])
   have hb3 : ∀ y ∈ y3.1.weights Tryz.prog 22, y ≤ reachBytes := fun y hy => hb y (by simp [hy])
   have hb4 : ∀ y ∈ y4.1.weights Tryz.prog 23, y ≤ reachBytes := fun y hy => hb y (by simp [hy])
   rw [ex1] at hb1
   rw [ex2] at hb2
   have hs1 := hb1 _ (by rw [w_str]; exact List.mem_singleton.2 rfl)
   have hs2 := hb2 _ (by rw [w_str]; exact List.mem_singleton.2 rfl)
   have es1 : s1.data.toList.length = s1.size := Array.length_toList
   have es2 : s2.data.toList.length = s2.size := Array.length_toList
   rw [reach_eq] at hs1 hs2
   obtain ⟨ns, names, e3, hR, hnl, hnz, hn16⟩ := open_strs g3 hb3
   simp only [List.cons.injEq, and_true] at e3
   subst e3
   rcases DataW.trod_slice uRowV g4 with ⟨e4, _⟩ | ⟨a, len, cap, elems, rest, n, hn, e4, ex4, _, hl, hm, hlen, hel, _, _⟩
   ·simp only [List.cons.injEq, and_true] at e4
    subst e4
    refine ⟨z0, z9, s1, s2, ns, ⟨none, 0, 0⟩, .mk (vk z0 z9) (bl s1) (bl s2) names [], rfl, ?_, (by rw [vtP, vtPs]; exact ⟨fun _ => (by unfold T47; rw [bl_length]; omega), trivial⟩)⟩
    unfold VaV
    refine ⟨rfl, rfl, rfl, ⟨hz9, hR, hn16, rfl, by simp, by omega, by omega, hnz⟩, ?_⟩
    unfold VaL
    trivial
   ·simp only [List.cons.injEq, and_true] at e4
    subst e4
    rw [nV] at hel
    rw [ex4] at hb4
    have hw4 : DataW.weights Tryz.prog 23 (.slice (elems.map (·.1)) (rest.map (·.1)) : DataW H) = ((elems.map (·.1)).length + (rest.map (·.1)).length) * Tryz.prog.bytesOf 25 :: (DataW.weightsAll Tryz.prog 25 (elems.map (·.1)) ++ DataW.weightsAll Tryz.prog 25 (rest.map (·.1))) := by
     conv => lhs; unfold DataW.weights
     rw [uRowV]
    dsimp only at hb4
    rw [hw4, bV, List.length_map, List.length_map] at hb4
    have hb40 := hb4 _ (List.mem_cons_self ..)
    rw [reach_eq] at hb40
    have each : ∀ i, i < len → ∃ q : WV × Shape, Held w (a.add (i * 6), wvCells q.1) ∧ VaT w q.1 q.2 ∧ vtP T47 q.2 := fun i hi => by
     obtain ⟨e, he⟩ : ∃ e, elems[i]? = some e := ⟨_, List.getElem?_eq_getElem (by omega)⟩
     have h1 := hel i hi
     rw [he, Option.bind_eq_some_iff] at h1
     obtain ⟨cs', hc, ht⟩ := h1
     obtain ⟨k', z', o', n', ns', ps', s', rfl, hv, hvt⟩ := ih n (by omega) ht fun y hy => hb4 y (List.mem_cons_of_mem _ (List.mem_append_left _ (mem_all (d := e.1) (List.mem_map.2 ⟨_, List.mem_of_getElem? he, rfl⟩) hy)))
     obtain ⟨_, _, hcell⟩ := World.cells?_some hc
     refine ⟨((k', z', o', n', ns', ps'), s'), fun j u hj => ?_, hv, hvt⟩
     have hj5 : j < 6 := (List.getElem?_eq_some_iff.1 hj).1
     rw [hcell j hj5]
     exact hj
    obtain ⟨L, hL, hp⟩ := list_choose each
    refine ⟨z0, z9, s1, s2, ns, ⟨some a, len, cap⟩, .mk (vk z0 z9) (bl s1) (bl s2) names (L.map (·.2)), rfl, ?_, (by
     rw [vtP]
     refine ⟨fun _ => (by unfold T47; rw [bl_length]; omega), vtPs_of fun s hs => ?_⟩
     obtain ⟨q, hq, rfl⟩ := List.mem_map.1 hs
     obtain ⟨j, hj⟩ := List.mem_iff_getElem?.1 hq
     exact (hp j q hj).2.2)⟩
    unfold VaV
    refine ⟨rfl, rfl, rfl, ⟨hz9, hR, hn16, by rw [List.length_map]; exact hL.symm, by rw [List.length_map]; omega, by omega, by omega, hnz⟩, ?_⟩
    refine vaL_of fun j s hj => ?_
    rw [List.getElem?_map] at hj
    cases hq : L[j]? with
    | none => rw [hq] at hj; cases hj
    | some q =>
     rw [hq] at hj
     cases hj
     obtain ⟨hh, hv, _⟩ := hp j q hq
     have hsp : a.spot = none := by
      have hj1 := (List.getElem?_eq_some_iff.1 hq).1
      obtain ⟨q0, hq0⟩ : ∃ q0, L[0]? = some q0 := ⟨_, List.getElem?_eq_getElem (by omega)⟩
      have hc0 := (hp 0 q0 hq0).1 0 _ rfl
      rw [Nat.zero_mul, Addr.add_zero', Addr.add_zero'] at hc0
      exact spot_none hc0
     obtain ⟨b, o, sp⟩ := a
     change sp = none at hsp
     subst hsp
     have at' : ∀ c u, (wvCells q.1)[c]? = some u → w.cell? ⟨b, o + (0 + j) * 6 + c, none⟩ = some u := fun c u hu => by
      have := hh c u hu
      rw [Addr.add_lit, Addr.add_lit] at this
      rw [Nat.zero_add]
      exact this
     exact ⟨b, o, q.1.1, q.1.2.1, q.1.2.2.1, q.1.2.2.2.1, q.1.2.2.2.2.1, q.1.2.2.2.2.2, rfl, at' 0 _ rfl, at' 1 _ rfl, at' 2 _ rfl, at' 3 _ rfl, at' 4 _ rfl, at' 5 _ rfl, hv⟩
theorem open_valueT {v : Value} {d : DataW H} {p : List MemPlace} (h : DataW.Trod enc Tryz.prog w 0 (fun _ => true) true 25 v d p) (hb : ∀ y ∈ d.weights Tryz.prog 25, y ≤ reachBytes) :
  ∃ (k z : Int) (o n : ByteArray) (ns ps : Sl) (s : Shape), v = vaArg k z o n ns ps ∧ VaV w k z o n ns ps s ∧ vtP T47 s := by
 obtain ⟨fuel, hf⟩ := h
 obtain ⟨k, z, o, n, ns, ps, s, hcs, hv, hvt⟩ := open_valueTC fuel hf hb
 refine ⟨k, z, o, n, ns, ps, s, ?_, hv, hvt⟩
 cases v with
 | agg xs =>
  obtain ⟨l⟩ := xs
  have : l = vaCells k z o n ns ps := hcs
  subst this
  rfl
 | _ => exact absurd (congrArg List.length hcs) (by simp [Value.cells, vaCells])
end
end Go.Proofs.YtngfnokbdcjoeaaGreatDoor
end
section
namespace Go.Proofs.YtngfnokbdcjoeaaGreatDoor
open Go.Lift
theorem disable (w : World) : (callFunc 257 #[]).run Tryz.prog w = .ok (.value (.tuple #[])) w := run_call_mark0 Tryz.func257 (by kernel_rfl) (by kernel_rfl) (by kernel_rfl) .disable (by kernel_rfl) w
theorem enable (w : World) : (callFunc 259 #[]).run Tryz.prog w = .ok (.value (.tuple #[])) w := run_call_mark0 Tryz.func259 (by kernel_rfl) (by kernel_rfl) (by kernel_rfl) .enable (by kernel_rfl) w
theorem acquire (a : Addr) (w : World) : (callFunc 260 #[.pointer (some a)]).run Tryz.prog w = .ok (.value (.tuple #[])) w := run_call_marked Tryz.func260 (by kernel_rfl) (by kernel_rfl) (by kernel_rfl) .acquire (by kernel_rfl) a w
theorem releaseMerge (a : Addr) (w : World) : (callFunc 262 #[.pointer (some a)]).run Tryz.prog w = .ok (.value (.tuple #[])) w := run_call_marked Tryz.func262 (by kernel_rfl) (by kernel_rfl) (by kernel_rfl) .releaseMerge (by kernel_rfl) a w
theorem load_ok (a : Addr) (d : Int) (w : World) (h0 : w.cell? a = some (.int .u32 d)) : Calls Tryz.prog 199 #[.pointer (some a)] w fun e w' => e = .returned (.bool (d != 0)) ∧ w' = w := by
 have hl := run_call_load (P := Tryz.prog) Tryz.func222 (by kernel_rfl) (by kernel_rfl) (by kernel_rfl) .u32 (by kernel_rfl) h0
 go_enter Tryz.func199, Tryz.ntmps199
 go_wp2
 go_ret
 exact ⟨rfl, rfl⟩
theorem store_deferred (a : Addr) (x : Value) (u : FrameMode) (w : World) (hc : w.cell? a = some x) (hz : w.frozen? a = false) :
  CallsD Tryz.prog 225 #[.pointer (some a), .bool true] u w fun e u' w' => u' = u ∧ (e = .returned (.tuple #[]) ∧ w' = w.drew.setCell a (.int .u32 1)) := by
 have hc' : w.drew.cell? a = some x := by go_simp
 have hz' : w.drew.frozen? a = false := by go_simp
 have hst := run_call_store (P := Tryz.prog) Tryz.func242 (by kernel_rfl) (by kernel_rfl) (by kernel_rfl) (by kernel_rfl) (k := .u32) (y := 1) hc' hz'
 go_enter_d Tryz.func225, Tryz.ntmps225
 go_wp2
 go_region_calls
 all_goals (go_end0; exact ⟨rfl, rfl⟩)
set_option maxRecDepth 100000 in
theorem unlock_deferred (a : Addr) (u : FrameMode) (w : World) (hc : w.cell? a = some (.int .i32 1)) (hz : w.frozen? a = false) :
  CallsD Tryz.prog 224 #[.pointer (some a)] u w fun e u' w' => u' = u ∧ (e = .returned (.tuple #[]) ∧ w' = w.setCell a (.int .i32 0)) := by
 have hd := disable
 have he := enable
 have hr := releaseMerge
 have hadd := run_call_add (P := Tryz.prog) Tryz.func263 (by kernel_rfl) (by kernel_rfl) (by kernel_rfl) .i32 (by kernel_rfl) (y := -1) (s := 0) hc hz (by simp [go_sem]; rfl)
 have hcv := run_convert_to_unsafe (P := Tryz.prog) (src := 278) (t := 184) (dst := 170) (by kernel_rfl) (by kernel_rfl) (by kernel_rfl) hc
 go_enter_d Tryz.func224, Tryz.ntmps224
 go_wp2
 go_end0
 go_wp2
 go_end0
 exact ⟨rfl, rfl⟩
set_option maxRecDepth 100000 in
theorem lock_free (a : Addr) (w : World) (hc : w.cell? a = some (.int .i32 0)) (hz : w.frozen? a = false) :
  Calls Tryz.prog 223 #[.pointer (some a)] w fun e w' => e = .returned (.tuple #[]) ∧ w' = w.setCell a (.int .i32 1) := by
 have hd := disable
 have he := enable
 have ha := acquire
 have hcas := run_call_cas_hit (P := Tryz.prog) Tryz.func258 (by kernel_rfl) (by kernel_rfl) (by kernel_rfl) .i32 (by kernel_rfl) (y := 1) hc hz
 have hc' : (w.setCell a (.int .i32 1)).cell? a = some (.int .i32 1) := World.cell?_setCell_same w a _ hc
 have hcv := run_convert_to_unsafe (P := Tryz.prog) (src := 278) (t := 184) (dst := 170) (by kernel_rfl) (by kernel_rfl) (by kernel_rfl) hc'
 go_enter Tryz.func223, Tryz.ntmps223
 go_wp2
 first | go_end0 | (simp only [Exit.inBlock, Exit.then]; refine bodyPost_ret (results_none rfl _ _ _) rfl ?_) | refine bodyPost_ret (results_none rfl _ _ _) rfl ?_
 go_wp2
 go_end0
 exact ⟨rfl, rfl⟩
end Go.Proofs.YtngfnokbdcjoeaaGreatDoor
end
section
namespace Go.Proofs.YtngfnokbdcjoeaaGreatDoor
open Go.Lift
set_option maxRecDepth 100000 in
set_option maxHeartbeats 1600000 in
theorem slow_ok {Q : World → Prop} (b off : Nat) (w : World) (h0 : w.cell? ⟨b, off, none⟩ = some (.int .u32 0)) (h1 : w.cell? ⟨b, off + 1, none⟩ = some (.int .i32 0)) (f1 : w.frozen? ⟨b, off + 1, none⟩ = false)
  (hq : Calls Tryz.prog 177 #[.pointer (some ⟨b, off, none⟩)] (w.setCell ⟨b, off + 1, none⟩ (.int .i32 1)) fun e w' => e = .returned (.tuple #[]) ∧ Q w')
  (hQ : ∀ w', Q w' → w'.cell? ⟨b, off, none⟩ = some (.int .u32 0) ∧ w'.cell? ⟨b, off + 1, none⟩ = some (.int .i32 1) ∧ w'.frozen? ⟨b, off, none⟩ = false ∧ w'.frozen? ⟨b, off + 1, none⟩ = false) :
  Calls Tryz.prog 200 #[.pointer (some ⟨b, off, none⟩), .func (.func 177) #[.pointer (some ⟨b, off, none⟩)] #[]] w fun e w' => e = .returned (.tuple #[]) ∧
   ∃ w1, Q w1 ∧ w' = (w1.drew.setCell ⟨b, off, none⟩ (.int .u32 1)).setCell ⟨b, off + 1, none⟩ (.int .i32 0) := by
 have h01 : (w.setCell ⟨b, off + 1, none⟩ (.int .i32 1)).cell? ⟨b, off, none⟩ = some (.int .u32 0) := (World.cell?_setCell_other _ ⟨b, off + 1, none⟩ ⟨b, off, none⟩ _ (by simp)).trans h0
 have hnot : ∀ (x : Bool) (w : World), (Op.unary .not (.bool x)).run Tryz.prog w = .ok (.bool (!x)) w := fun _ _ => rfl
 go_enter_defers Tryz.func200, Tryz.ntmps200
 go_wp2_with (first | (go_at_call 223; refine (lock_free ⟨b, off + 1, none⟩ _ h1 f1).mono ?_; rintro e w' ⟨rfl, rfl⟩) | (go_at_call 199; refine (load_ok ⟨b, off, none⟩ 0 _ h01).mono ?_; rintro e w' ⟨rfl, rfl⟩) | (go_at_call 177; refine hq.mono ?_; rintro e w' ⟨rfl, hw⟩))
 obtain ⟨c0, c1, z0, z1⟩ := hQ _ hw
 first | go_end0 | skip
 -- THE DOOR: two deferred calls, the last laid first
 refine leaves_cons (f := 225) (args := #[.pointer (some ⟨b, off, none⟩), .bool true]) (by simp) (by simp [go_sem]) ?_
 refine (store_deferred ⟨b, off, none⟩ (.int .u32 0) .returning _ c0 z0).mono ?_
 rintro e u' w'' ⟨rfl, rfl, rfl⟩
 refine leaves_cons (f := 224) (args := #[.pointer (some ⟨b, off + 1, none⟩)]) (by simp [settle]) (by simp [go_sem]) ?_
 refine (unlock_deferred ⟨b, off + 1, none⟩ _ _ ?_ (by simp [z1])).mono ?_
 ·refine (World.cell?_setCell_other _ ⟨b, off, none⟩ ⟨b, off + 1, none⟩ _ (by simp)).trans ?_
  rw [World.cell?_drew]
  exact c1
 rintro e u' w'' ⟨rfl, rfl, rfl⟩
 simp [Leaves, settle, results, Tryz.results200]
 exact ⟨w', hw, rfl⟩
end Go.Proofs.YtngfnokbdcjoeaaGreatDoor
end
