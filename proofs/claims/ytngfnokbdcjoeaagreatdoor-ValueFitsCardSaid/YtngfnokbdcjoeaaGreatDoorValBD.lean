/- The law behind: one part of its proof (joined by program out of my own texts). No condition. -/
import Derived.Test.YtngfnokbdcjoeaaGreatDoorValBC
import Derived.Deep.Slices
import Derived.Deep.SlicePairs
section
namespace Go.Proofs.YtngfnokbdcjoeaaGreatDoor
open Go.Lift Go.Lex Go.Shp Go.ChangeShapes Go.WideShapes Go.RowKit Go.Deep
theorem list_choose {α : Type} {n : Nat} {P : Nat → α → Prop} (h : ∀ i, i < n → ∃ x, P i x) : ∃ l : List α, l.length = n ∧ ∀ (i : Nat) x, l[i]? = some x → P i x := by
 have : ∀ k, k ≤ n → ∃ l : List α, l.length = k ∧ ∀ (i : Nat) x, l[i]? = some x → P i x := by
  intro k
  induction k with
  | zero => intro _; exact ⟨[], rfl, fun i x h => by simp at h⟩
  | succ k ih =>
   intro hk
   obtain ⟨l, hl, hp⟩ := ih (by omega)
   obtain ⟨x, hx⟩ := h k (by omega)
   refine ⟨l ++ [x], by simp [hl], fun i y hy => ?_⟩
   by_cases hi : i < l.length
   ·rw [List.getElem?_append_left hi] at hy
    exact hp i y hy
   ·have : i = l.length := by have := (List.getElem?_eq_some_iff.1 hy).1; simp at this; omega
    subst this
    simp at hy
    subst hy
    rw [hl]
    exact hx
 exact this n (Nat.le_refl _)
theorem spot_none {w : World} {a : Addr} {v : Value} (h : w.cell? a = some v) : a.spot = none := by
 unfold World.cell? at h
 split at h
 ·split at h
  ·cases h
  ·rename_i hh
   cases hs : a.spot with
   | none => rfl
   | some _ => rw [hs] at hh; exact absurd rfl hh
 ·cases h
section
variable {H : Type} {enc : TypeId × Value → H} {w : World}
theorem mem_all {P : Program} {e : TypeId} : ∀ {l : List (DataW H)} {d : DataW H} {y : Nat}, d ∈ l → y ∈ d.weights P e → y ∈ DataW.weightsAll P e l
 | x :: r, d, y, h, hy => by
  unfold DataW.weightsAll
  rcases List.mem_cons.1 h with rfl | h
  ·exact List.mem_append_left _ hy
  ·exact List.mem_append_right _ (mem_all h hy)
theorem uRowS : Tryz.prog.underlying 22 = some (.slice 9) := by kernel_rfl
theorem uRowP : Tryz.prog.underlying 34 = some (.slice 36) := by kernel_rfl
theorem uI : Tryz.prog.underlying 3 = some (.int .i64) := by kernel_rfl
theorem uS : Tryz.prog.underlying 9 = some .string := by kernel_rfl
theorem nI : Tryz.prog.cellsOf 3 = 1 := by kernel_rfl
theorem nS : Tryz.prog.cellsOf 9 = 1 := by kernel_rfl
theorem nRS : Tryz.prog.cellsOf 22 = 1 := by kernel_rfl
theorem nRP : Tryz.prog.cellsOf 34 = 1 := by kernel_rfl
theorem nP : Tryz.prog.cellsOf 36 = 5 := by kernel_rfl
theorem bS : Tryz.prog.bytesOf 9 = 16 := by kernel_rfl
theorem nRV : Tryz.prog.cellsOf 23 = 1 := by kernel_rfl
theorem nV : Tryz.prog.cellsOf 25 = 6 := by kernel_rfl
theorem bV : Tryz.prog.bytesOf 25 = 96 := by kernel_rfl
theorem uRowV : Tryz.prog.underlying 23 = some (.slice 25) := by kernel_rfl
theorem fieldsV : ∃ f0 f9 f1 f2 f3 f4 : Field, Tryz.prog.underlying 25 = some (.struct #[f0, f9, f1, f2, f3, f4]) ∧ (f0.offset = 0 ∧ f0.type = 3) ∧ (f9.offset = 1 ∧ f9.type = 2) ∧ (f1.offset = 2 ∧ f1.type = 9) ∧ (f2.offset = 3 ∧ f2.type = 9) ∧ (f3.offset = 4 ∧ f3.type = 22) ∧ (f4.offset = 5 ∧ f4.type = 23) := by
 have h : (Tryz.prog.underlying 25).map (fun d => match d with | .struct fs => fs.toList.map (fun f => (f.offset, f.type)) | _ => []) = some [(0, 3), (1, 2), (2, 9), (3, 9), (4, 22), (5, 23)] := by kernel_rfl
 cases hd : Tryz.prog.underlying 25 with
 | none => rw [hd] at h; cases h
 | some d =>
  rw [hd] at h
  cases d with
  | struct fs =>
   obtain ⟨l⟩ := fs
   match l with
   | [f0, f9, f1, f2, f3, f4] => simp at h; exact ⟨f0, f9, f1, f2, f3, f4, rfl, h.1, h.2.1, h.2.2.1, h.2.2.2.1, h.2.2.2.2.1, h.2.2.2.2.2⟩
   | [] => simp at h
   | [_] => simp at h
   | [_, _] => simp at h
   | [_, _, _] => simp at h
   | [_, _, _, _] => simp at h
   | [_, _, _, _, _] => simp at h
   | _ :: _ :: _ :: _ :: _ :: _ :: _ :: _ => simp at h
  | _ => simp at h
theorem uI64 : Tryz.prog.underlying 2 = some (.int .i64) := by kernel_rfl
theorem nI64 : Tryz.prog.cellsOf 2 = 1 := by kernel_rfl
theorem bP : Tryz.prog.bytesOf 36 = 88 := by kernel_rfl
theorem fieldsP : ∃ f0 f1 f2 f3 f4 : Field, Tryz.prog.underlying 36 = some (.struct #[f0, f1, f2, f3, f4]) ∧ (f0.offset = 0 ∧ f0.type = 3) ∧ (f1.offset = 1 ∧ f1.type = 9) ∧ (f2.offset = 2 ∧ f2.type = 9) ∧ (f3.offset = 3 ∧ f3.type = 22) ∧ (f4.offset = 4 ∧ f4.type = 34) := by
 have h : (Tryz.prog.underlying 36).map (fun d => match d with | .struct fs => fs.toList.map (fun f => (f.offset, f.type)) | _ => []) = some [(0, 3), (1, 9), (2, 9), (3, 22), (4, 34)] := by kernel_rfl
 cases hd : Tryz.prog.underlying 36 with
 | none => rw [hd] at h; cases h
 | some d =>
  rw [hd] at h
  cases d with
  | struct fs =>
   obtain ⟨l⟩ := fs
   match l with
   | [f0, f1, f2, f3, f4] => simp at h; exact ⟨f0, f1, f2, f3, f4, rfl, h.1, h.2.1, h.2.2.1, h.2.2.2.1, h.2.2.2.2⟩
   | [] => simp at h
   | [_] => simp at h
   | [_, _] => simp at h
   | [_, _, _] => simp at h
   | [_, _, _, _] => simp at h
   | _ :: _ :: _ :: _ :: _ :: _ :: _ => simp at h
  | _ => simp at h
theorem reach_eq : reachBytes = 140737488351232 := rfl
theorem trodAll_nil {P : Program} {vs : List Value} {ds : List (DataW H)} {ps : List MemPlace} (h : DataW.TrodAll enc P w 0 (fun _ => true) true [] vs ds ps) : vs = [] ∧ ds = [] := by
 cases vs <;> cases ds <;> simp [DataW.TrodAll] at h
 exact ⟨rfl, rfl⟩
theorem open_strs {fuel : Nat} {cs : List Value} {x : DataW H × List MemPlace} (h : DataW.trod enc Tryz.prog w 0 (fun _ => true) true fuel 22 cs = some x) (hb : ∀ y ∈ x.1.weights Tryz.prog 22, y ≤ reachBytes) :
  ∃ (s : Sl) (names : List B), cs = [.slice s.a s.n s.c] ∧ RdS w s (names.map bs) ∧ names.length < 4611686018427387904 ∧ (∀ y ∈ names, y.length < 4611686018427387904) ∧ names.length * 16 ≤ 140737488351232 := by
 rcases DataW.trod_slice uRowS h with ⟨rfl, _⟩ | ⟨a, len, cap, elems, rest, n, _, rfl, rfl, _, hl, hm, hlen, hel, _, _⟩
 ·exact ⟨⟨none, 0, 0⟩, [], rfl, ⟨rfl, fun k x h => by simp at h⟩, by simp, fun y h => (by simp at h), by simp⟩
 ·rw [nS] at hel
  have hw : DataW.weights Tryz.prog 22 (.slice (elems.map (·.1)) (rest.map (·.1)) : DataW H) = ((elems.map (·.1)).length + (rest.map (·.1)).length) * Tryz.prog.bytesOf 9 :: (DataW.weightsAll Tryz.prog 9 (elems.map (·.1)) ++ DataW.weightsAll Tryz.prog 9 (rest.map (·.1))) := by
   unfold DataW.weights
   rw [uRowS]
  dsimp only at hb
  rw [hw, bS, List.length_map, List.length_map] at hb
  have hb0 := hb _ (List.mem_cons_self ..)
  rw [reach_eq] at hb0
  have each : ∀ i, i < len → ∃ y : B, w.cell? (a.add (i * 1)) = some (.string (bs y)) ∧ y.length ≤ reachBytes := fun i hi => by
   obtain ⟨e, he⟩ : ∃ e, elems[i]? = some e := ⟨_, List.getElem?_eq_getElem (by omega)⟩
   have h1 := hel i hi
   rw [he, Option.bind_eq_some_iff] at h1
   obtain ⟨cs', hc, ht⟩ := h1
   obtain ⟨s, rfl, rfl, _⟩ := DataW.trod_string uS ht
   obtain ⟨_, _, hcell⟩ := World.cells?_some hc
   refine ⟨bl s, ?_, ?_⟩
   ·have := hcell 0 (by omega)
    rw [Addr.add_zero'] at this
    rw [this]
    show some (Value.string s) = _
    rw [bs_bl]
   ·refine hb _ (List.mem_cons_of_mem _ (List.mem_append_left _ (mem_all (d := .lit (.string s.data.toList)) ?_ ?_)))
    ·exact List.mem_map.2 ⟨_, List.mem_of_getElem? he, rfl⟩
    ·unfold DataW.weights
     exact List.mem_singleton.2 rfl
  obtain ⟨names, hn, hp⟩ := list_choose each
  refine ⟨⟨some a, len, cap⟩, names, rfl, ⟨by rw [List.length_map]; exact hn.symm, fun k x hx => ?_⟩, by omega, fun y hy => ?_, by omega⟩
  ·rw [List.getElem?_map] at hx
   cases hy : names[k]? with
   | none => rw [hy] at hx; cases hx
   | some y =>
    rw [hy] at hx
    cases hx
    exact ⟨a, rfl, (hp k y hy).1⟩
  ·obtain ⟨j, hj⟩ := List.mem_iff_getElem?.1 hy
   have := (hp j y hj).2
   rw [reach_eq] at this
   omega
theorem w_str (P : Program) (t : TypeId) (l : List UInt8) : DataW.weights P t (.lit (.string l) : DataW H) = [l.length] := by unfold DataW.weights; rfl
set_option maxRecDepth 100000 in
theorem open_shapeC : ∀ (fuel : Nat) {cs : List Value} {x : DataW H × List MemPlace}, DataW.trod enc Tryz.prog w 0 (fun _ => true) true fuel 36 cs = some x → (∀ y ∈ x.1.weights Tryz.prog 36, y ≤ reachBytes) →
  ∃ (k : Int) (o n : ByteArray) (ns ps : Sl) (s : Shape), cs = shCells k o n ns ps ∧ ShV w k o n ns ps s := by
 intro fuel
 induction fuel using Nat.strongRecOn with
 | _ fuel ih =>
  intro cs x h hb
  obtain ⟨f0, f1, f2, f3, f4, hs, ⟨o0, t0⟩, ⟨o1, t1⟩, ⟨o2, t2⟩, ⟨o3, t3⟩, ⟨o4, t4⟩⟩ := fieldsP
  obtain ⟨xs, kf, rfl, rfl, hcl, hxl, hf⟩ := DataW.trod_struct hs h
  rw [nP] at hcl
  match xs, hxl, cs, hcl with
  | [y0, y1, y2, y3, y4], _, [v0, v1, v2, v3, v4], _ =>
   have g0 := hf 0 f0 rfl
   have g1 := hf 1 f1 rfl
   have g2 := hf 2 f2 rfl
   have g3 := hf 3 f3 rfl
   have g4 := hf 4 f4 rfl
   simp [o0, t0, nI] at g0
   simp [o1, t1, nS] at g1
   simp [o2, t2, nS] at g2
   simp [o3, t3, nRS] at g3
   simp [o4, t4, nRP] at g4
   obtain ⟨z0, e0, _, _⟩ := DataW.trod_int uI g0
   obtain ⟨s1, e1, ex1, _⟩ := DataW.trod_string uS g1
   obtain ⟨s2, e2, ex2, _⟩ := DataW.trod_string uS g2
   simp only [List.cons.injEq, and_true] at e0 e1 e2
   subst e0 e1 e2
   have hw : DataW.weights Tryz.prog 36 (.agg (List.map (·.1) [y0, y1, y2, y3, y4]) : DataW H) = y0.1.weights Tryz.prog 3 ++ (y1.1.weights Tryz.prog 9 ++ (y2.1.weights Tryz.prog 9 ++ (y3.1.weights Tryz.prog 22 ++ (y4.1.weights Tryz.prog 34 ++ [])))) := by
    conv => lhs; unfold DataW.weights
    rw [hs]
    simp only [List.map_cons, List.map_nil, t0, t1, t2, t3, t4, DataW.weightsEach]
   dsimp only at hb
   rw [hw] at hb
   have hb1 : ∀ y ∈ y1.1.weights Tryz.prog 9, y ≤ reachBytes := fun y hy => hb y (by simp [hy])
   have hb2 : ∀ y ∈ y2.1.weights Tryz.prog 9, y ≤ reachBytes := fun y hy => hb y (by simp [hy])
   have hb3 : ∀ y ∈ y3.1.weights Tryz.prog 22, y ≤ reachBytes := fun y hy => hb y (by simp [hy])
   have hb4 : ∀ y ∈ y4.1.weights Tryz.prog 34, y ≤ reachBytes := fun y hy => hb y (by simp [hy])
   rw [ex1] at hb1
   rw [ex2] at hb2
   have hs1 := hb1 _ (by rw [w_str]; exact List.mem_singleton.2 rfl)
   have hs2 := hb2 _ (by rw [w_str]; exact List.mem_singleton.2 rfl)
   have es1 : s1.data.toList.length = s1.size := Array.length_toList
   have es2 : s2.data.toList.length = s2.size := Array.length_toList
   rw [reach_eq] at hs1 hs2
   obtain ⟨ns, names, e3, hR, hnl, hnz, hn16⟩ := open_strs g3 hb3
   simp only [List.cons.injEq, and_true] at e3
   subst e3
   rcases DataW.trod_slice uRowP g4 with ⟨e4, _⟩ | ⟨a, len, cap, elems, rest, n, hn, e4, ex4, _, hl, hm, hlen, hel, _, _⟩
   ·simp only [List.cons.injEq, and_true] at e4
    subst e4
    refine ⟨z0, s1, s2, ns, ⟨none, 0, 0⟩, .mk z0 (bl s1) (bl s2) names [], rfl, ?_⟩
    unfold ShV
    refine ⟨rfl, rfl, rfl, ⟨hR, hnl, rfl, by simp, by omega, by omega, hnz⟩, ?_⟩
    unfold ShL
    trivial
   ·simp only [List.cons.injEq, and_true] at e4
    subst e4
    rw [nP] at hel
    rw [ex4] at hb4
    have hw4 : DataW.weights Tryz.prog 34 (.slice (elems.map (·.1)) (rest.map (·.1)) : DataW H) = ((elems.map (·.1)).length + (rest.map (·.1)).length) * Tryz.prog.bytesOf 36 :: (DataW.weightsAll Tryz.prog 36 (elems.map (·.1)) ++ DataW.weightsAll Tryz.prog 36 (rest.map (·.1))) := by
     conv => lhs; unfold DataW.weights
     rw [uRowP]
    dsimp only at hb4
    rw [hw4, bP, List.length_map, List.length_map] at hb4
    have hb40 := hb4 _ (List.mem_cons_self ..)
    rw [reach_eq] at hb40
    have each : ∀ i, i < len → ∃ q : (Int × ByteArray × ByteArray × Sl × Sl) × Shape, Held w (a.add (i * 5), shCells q.1.1 q.1.2.1 q.1.2.2.1 q.1.2.2.2.1 q.1.2.2.2.2) ∧ ShV w q.1.1 q.1.2.1 q.1.2.2.1 q.1.2.2.2.1 q.1.2.2.2.2 q.2 := fun i hi => by
     obtain ⟨e, he⟩ : ∃ e, elems[i]? = some e := ⟨_, List.getElem?_eq_getElem (by omega)⟩
     have h1 := hel i hi
     rw [he, Option.bind_eq_some_iff] at h1
     obtain ⟨cs', hc, ht⟩ := h1
     obtain ⟨k', o', n', ns', ps', s', rfl, hv⟩ := ih n (by omega) ht fun y hy => hb4 y (List.mem_cons_of_mem _ (List.mem_append_left _ (mem_all (d := e.1) (List.mem_map.2 ⟨_, List.mem_of_getElem? he, rfl⟩) hy)))
     obtain ⟨_, _, hcell⟩ := World.cells?_some hc
     refine ⟨((k', o', n', ns', ps'), s'), fun j u hj => ?_, hv⟩
     have hj5 : j < 5 := (List.getElem?_eq_some_iff.1 hj).1
     rw [hcell j hj5]
     exact hj
    obtain ⟨L, hL, hp⟩ := list_choose each
    refine ⟨z0, s1, s2, ns, ⟨some a, len, cap⟩, .mk z0 (bl s1) (bl s2) names (L.map (·.2)), rfl, ?_⟩
    unfold ShV
    refine ⟨rfl, rfl, rfl, ⟨hR, hnl, by rw [List.length_map]; exact hL.symm, by rw [List.length_map]; omega, by omega, by omega, hnz⟩, ?_⟩
    refine shL_of fun j s hj => ?_
    rw [List.getElem?_map] at hj
    cases hq : L[j]? with
    | none => rw [hq] at hj; cases hj
    | some q =>
     rw [hq] at hj
     cases hj
     obtain ⟨hh, hv⟩ := hp j q hq
     have hsp : a.spot = none := by
      have hj1 := (List.getElem?_eq_some_iff.1 hq).1
      obtain ⟨q0, hq0⟩ : ∃ q0, L[0]? = some q0 := ⟨_, List.getElem?_eq_getElem (by omega)⟩
      have hc0 := (hp 0 q0 hq0).1 0 _ rfl
      rw [Nat.zero_mul, Addr.add_zero', Addr.add_zero'] at hc0
      exact spot_none hc0
     obtain ⟨b, o, sp⟩ := a
     change sp = none at hsp
     subst hsp
     have at' : ∀ c u, (shCells q.1.1 q.1.2.1 q.1.2.2.1 q.1.2.2.2.1 q.1.2.2.2.2)[c]? = some u → w.cell? ⟨b, o + (0 + j) * 5 + c, none⟩ = some u := fun c u hu => by
      have := hh c u hu
      rw [Addr.add_lit, Addr.add_lit] at this
      rw [Nat.zero_add]
      exact this
     exact ⟨b, o, q.1.1, q.1.2.1, q.1.2.2.1, q.1.2.2.2.1, q.1.2.2.2.2, rfl, at' 0 _ rfl, at' 1 _ rfl, at' 2 _ rfl, at' 3 _ rfl, at' 4 _ rfl, hv⟩
theorem open_shape {v : Value} {d : DataW H} {p : List MemPlace} (h : DataW.Trod enc Tryz.prog w 0 (fun _ => true) true 36 v d p) (hb : ∀ y ∈ d.weights Tryz.prog 36, y ≤ reachBytes) :
  ∃ (k : Int) (o n : ByteArray) (ns ps : Sl) (s : Shape), v = shArg k o n ns ps ∧ ShV w k o n ns ps s := by
 obtain ⟨fuel, hf⟩ := h
 obtain ⟨k, o, n, ns, ps, s, hcs, hv⟩ := open_shapeC fuel hf hb
 refine ⟨k, o, n, ns, ps, s, ?_, hv⟩
 cases v with
 | agg xs =>
  obtain ⟨l⟩ := xs
  have : l = shCells k o n ns ps := hcs
  subst this
  rfl
 | _ => exact absurd (congrArg List.length hcs) (by simp [Value.cells, shCells])
set_option maxRecDepth 100000 in
theorem open_valueC : ∀ (fuel : Nat) {cs : List Value} {x : DataW H × List MemPlace}, DataW.trod enc Tryz.prog w 0 (fun _ => true) true fuel 25 cs = some x → (∀ y ∈ x.1.weights Tryz.prog 25, y ≤ reachBytes) →
  ∃ (k z : Int) (o n : ByteArray) (ns ps : Sl) (s : Shape), cs = vaCells k z o n ns ps ∧ VaV w k z o n ns ps s := by
 intro fuel
 induction fuel using Nat.strongRecOn with
 | _ fuel ih =>
  intro cs x h hb
  obtain ⟨f0, f9, f1, f2, f3, f4, hs, ⟨o0, t0⟩, ⟨o9, t9⟩, ⟨o1, t1⟩, ⟨o2, t2⟩, ⟨o3, t3⟩, ⟨o4, t4⟩⟩ := fieldsV
  obtain ⟨xs, kf, rfl, rfl, hcl, hxl, hf⟩ := DataW.trod_struct hs h
  rw [nV] at hcl
  match xs, hxl, cs, hcl with
  | [y0, y9, y1, y2, y3, y4], _, [v0, v9, v1, v2, v3, v4], _ =>
   have g0 := hf 0 f0 rfl
   have g9 := hf 1 f9 rfl
   have g1 := hf 2 f1 rfl
   have g2 := hf 3 f2 rfl
   have g3 := hf 4 f3 rfl
   have g4 := hf 5 f4 rfl
   simp [o0, t0, nI] at g0
   simp [o9, t9, nI64] at g9
   simp [o1, t1, nS] at g1
   simp [o2, t2, nS] at g2
   simp [o3, t3, nRS] at g3
   simp [o4, t4, nRV] at g4
   obtain ⟨z0, e0, _, _⟩ := DataW.trod_int uI g0
   obtain ⟨z9, e9, _, w9⟩ := DataW.trod_int uI64 g9
   have hz9 : okN z9 := by
    have h := w9
    simp [Lit.wf] at h
    exact h
   obtain ⟨s1, e1, ex1, _⟩ := DataW.trod_string uS g1
   obtain ⟨s2, e2, ex2, _⟩ := DataW.trod_string uS g2
   simp only [List.cons.injEq, and_true] at e0 e9 e1 e2
   subst e0 e9 e1 e2
   have hw : DataW.weights Tryz.prog 25 (.agg (List.map (·.1) [y0, y9, y1, y2, y3, y4]) : DataW H) = y0.1.weights Tryz.prog 3 ++ (y9.1.weights Tryz.prog 2 ++ (y1.1.weights Tryz.prog 9 ++ (y2.1.weights Tryz.prog 9 ++ (y3.1.weights Tryz.prog 22 ++ (y4.1.weights Tryz.prog 23 ++ []))))) := by
    conv => lhs; unfold DataW.weights
    rw [hs]
    simp only [List.map_cons, List.map_nil, t0, t9, t1, t2, t3, t4, DataW.weightsEach]
   dsimp only at hb
   rw [hw] at hb
   have hb1 : ∀ y ∈ y1.1.weights Tryz.prog 9, y ≤ reachBytes := fun y hy => hb y (by simp [hy])
   have hb2 : ∀ y ∈ y2.1.weights Tryz.prog 9, y ≤ reachBytes := fun y hy => hb y (by simp [hy])
   have hb3 : ∀ y ∈ y3.1.weights Tryz.prog 22, y ≤ reachBytes := fun y hy => hb y (by simp [hy])
   have hb4 : ∀ y ∈ y4.1.weights Tryz.prog 23, y ≤ reachBytes := fun y hy => hb y (by simp [hy])
   rw [ex1] at hb1
   rw [ex2] at hb2
   have hs1 := hb1 _ (by rw [w_str]; exact List.mem_singleton.2 rfl)
   have hs2 := hb2 _ (by rw [w_str]; exact List.mem_singleton.2 rfl)
   have es1 : s1.data.toList.length = s1.size := Array.length_toList
   have es2 : s2.data.toList.length = s2.size := Array.length_toList
   rw [reach_eq] at hs1 hs2
   obtain ⟨ns, names, e3, hR, hnl, hnz, hn16⟩ := open_strs g3 hb3
   simp only [List.cons.injEq, and_true] at e3
   subst e3
   rcases DataW.trod_slice uRowV g4 with ⟨e4, _⟩ | ⟨a, len, cap, elems, rest, n, hn, e4, ex4, _, hl, hm, hlen, hel, _, _⟩
   ·simp only [List.cons.injEq, and_true] at e4
    subst e4
    refine ⟨z0, z9, s1, s2, ns, ⟨none, 0, 0⟩, .mk (vk z0 z9) (bl s1) (bl s2) names [], rfl, ?_⟩
    unfold VaV
    refine ⟨rfl, rfl, rfl, ⟨hz9, hR, hn16, rfl, by simp, by omega, by omega, hnz⟩, ?_⟩
    unfold VaL
    trivial
   ·simp only [List.cons.injEq, and_true] at e4
    subst e4
    rw [nV] at hel
    rw [ex4] at hb4
    have hw4 : DataW.weights Tryz.prog 23 (.slice (elems.map (·.1)) (rest.map (·.1)) : DataW H) = ((elems.map (·.1)).length + (rest.map (·.1)).length) * Tryz.prog.bytesOf 25 :: (DataW.weightsAll Tryz.prog 25 (elems.map (·.1)) ++ DataW.weightsAll Tryz.prog 25 (rest.map (·.1))) := by
     conv => lhs; unfold DataW.weights
     rw [uRowV]
    dsimp only at hb4
    rw [hw4, bV, List.length_map, List.length_map] at hb4
    have hb40 := hb4 _ (List.mem_cons_self ..)
    rw [reach_eq] at hb40
    have each : ∀ i, i < len → ∃ q : WV × Shape, Held w (a.add (i * 6), wvCells q.1) ∧ VaT w q.1 q.2 := fun i hi => by
     obtain ⟨e, he⟩ : ∃ e, elems[i]? = some e := ⟨_, List.getElem?_eq_getElem (by omega)⟩
     have h1 := hel i hi
     rw [he, Option.bind_eq_some_iff] at h1
     obtain ⟨cs', hc, ht⟩ := h1
     obtain ⟨k', z', o', n', ns', ps', s', rfl, hv⟩ := ih n (by omega) ht fun y hy => hb4 y (List.mem_cons_of_mem _ (List.mem_append_left _ (mem_all (d := e.1) (List.mem_map.2 ⟨_, List.mem_of_getElem? he, rfl⟩) hy)))
     obtain ⟨_, _, hcell⟩ := World.cells?_some hc
     refine ⟨((k', z', o', n', ns', ps'), s'), fun j u hj => ?_, hv⟩
     have hj5 : j < 6 := (List.getElem?_eq_some_iff.1 hj).1
     rw [hcell j hj5]
     exact hj
    obtain ⟨L, hL, hp⟩ := list_choose each
    refine ⟨z0, z9, s1, s2, ns, ⟨some a, len, cap⟩, .mk (vk z0 z9) (bl s1) (bl s2) names (L.map (·.2)), rfl, ?_⟩
    unfold VaV
    refine ⟨rfl, rfl, rfl, ⟨hz9, hR, hn16, by rw [List.length_map]; exact hL.symm, by rw [List.length_map]; omega, by omega, by omega, hnz⟩, ?_⟩
    refine vaL_of fun j s hj => ?_
    rw [List.getElem?_map] at hj
    cases hq : L[j]? with
    | none => rw [hq] at hj; cases hj
    | some q =>
     rw [hq] at hj
     cases hj
     obtain ⟨hh, hv⟩ := hp j q hq
     have hsp : a.spot = none := by
      have hj1 := (List.getElem?_eq_some_iff.1 hq).1
      obtain ⟨q0, hq0⟩ : ∃ q0, L[0]? = some q0 := ⟨_, List.getElem?_eq_getElem (by omega)⟩
      have hc0 := (hp 0 q0 hq0).1 0 _ rfl
      rw [Nat.zero_mul, Addr.add_zero', Addr.add_zero'] at hc0
      exact spot_none hc0
     obtain ⟨b, o, sp⟩ := a
     change sp = none at hsp
     subst hsp
     have at' : ∀ c u, (wvCells q.1)[c]? = some u → w.cell? ⟨b, o + (0 + j) * 6 + c, none⟩ = some u := fun c u hu => by
      have := hh c u hu
      rw [Addr.add_lit, Addr.add_lit] at this
      rw [Nat.zero_add]
      exact this
     exact ⟨b, o, q.1.1, q.1.2.1, q.1.2.2.1, q.1.2.2.2.1, q.1.2.2.2.2.1, q.1.2.2.2.2.2, rfl, at' 0 _ rfl, at' 1 _ rfl, at' 2 _ rfl, at' 3 _ rfl, at' 4 _ rfl, at' 5 _ rfl, hv⟩
theorem open_value {v : Value} {d : DataW H} {p : List MemPlace} (h : DataW.Trod enc Tryz.prog w 0 (fun _ => true) true 25 v d p) (hb : ∀ y ∈ d.weights Tryz.prog 25, y ≤ reachBytes) :
  ∃ (k z : Int) (o n : ByteArray) (ns ps : Sl) (s : Shape), v = vaArg k z o n ns ps ∧ VaV w k z o n ns ps s := by
 obtain ⟨fuel, hf⟩ := h
 obtain ⟨k, z, o, n, ns, ps, s, hcs, hv⟩ := open_valueC fuel hf hb
 refine ⟨k, z, o, n, ns, ps, s, ?_, hv⟩
 cases v with
 | agg xs =>
  obtain ⟨l⟩ := xs
  have : l = vaCells k z o n ns ps := hcs
  subst this
  rfl
 | _ => exact absurd (congrArg List.length hcs) (by simp [Value.cells, vaCells])
end
end Go.Proofs.YtngfnokbdcjoeaaGreatDoor
end
