/- The finder law: FRanksCard: one part of its proof (joined by program out of my own texts). No condition. -/
import Derived.Test.YticokfpaoiekgaaGreatDoorFRkBN
import Derived.WalkKit
import Derived.ProofKit
import Derived.OpenShut
import Derived.JoinedCond
import Derived.ReadAgain
import Derived.ChangeStays
import Derived.Deep.SlicePairs
import Derived.Deep.Grids
import Derived.Lib.SmallJoins
import Derived.Test.YticokfpaoiekgaaGreatDoorRows
import Derived.Deep.Slices
import Derived.SizedLaws
import Derived.JoinedOf
import Derived.SevenTiedAt
import Derived.Test.YticokfpaoiekgaaGreatDoorTie
import Derived.Test.YticokfpaoiekgaaGreatDoorCards
section
namespace Go.Proofs.YticokfpaoiekgaaGreatDoor
open Go.Lift Go.ChangeShapes Go.WideShapes Go.ChangeAt Go.RowKit
theorem fr_keptBut {W W' : World} (F : Fr noB W W') (may : MemPlace → Prop) : W.keptBut W' may := by
  refine ⟨F.os, F.output, fun i hi => ?_⟩
  rw [F.blk i hi (fun h => h)]
  cases W.heap[i]? with
  | none => rfl
  | some o => cases o <;> simp
theorem fr_same {W W' : World} (F : Fr noB W W') {p : MemPlace} (h : p.block < W.heap.size) : W.sameAt W' p := by
  cases p with
  | cell b off => exact World.cell?_of_block (F.blk b h (fun h => h))
  | map b => exact F.blk b h (fun h => h)
section
variable {H : Type} {enc : TypeId × Value → H} {P : Program} {T : TypeId → Prop} {W W' : World}
theorem trodAll_stays (K : Kids P T) (hz : ∀ t e, T t → P.underlying t = some (.slice e) → 0 < P.cellsOf e) (F : Fr noB W W') {sp : Nat → Bool} : ∀ {ts : List TypeId} {vs : List Value} {ds : List (DataW H)} {ps : List MemPlace}, (∀ t ∈ ts, T t) →
    DataW.TrodAll enc P W 0 (fun _ => true) true ts vs ds ps → (∀ p ∈ ps, sp p.block = true) → DataW.TrodAll enc P W' 0 sp true ts vs ds ps
  | [], [], [], _, _, h, _ => h
  | _ :: _, _ :: _, _ :: _, _, hT, ⟨p, q, ⟨n, h1⟩, h2, e⟩, hs =>
    ⟨p, q, ⟨n, DataW.trod_stays K (fun ht hu => hz _ _ ht hu) (fun h => by cases h) (hT _ (List.mem_cons.2 (Or.inl rfl))) h1 (fun x hx => fr_same F (DataW.trod_lt n _ _ _ h1 x hx)) (fun x hx => hs x (by rw [e]; exact List.mem_append_left _ hx))⟩,
      trodAll_stays K hz F (fun t ht => hT t (List.mem_cons.2 (Or.inr ht))) h2 (fun x hx => hs x (by rw [e]; exact List.mem_append_right _ hx)), e⟩
theorem post_true {f : Func} {s : ChangeSpec} {args : Array Value} {ds gs : List (DataW H)} {before : List MemPlace} {tb : TypeId} (hvs : s.vars = [])
    (hW : DataW.Whole enc P f.params.toList s.vars false W args.toList ds gs before) (hfn : s.fn H (ds ++ gs) = { results := [.lit (.bool true)], args := ds })
    (K : Kids P T) (hz : ∀ t e, T t → P.underlying t = some (.slice e) → 0 < P.cellsOf e) (hT : ∀ t ∈ f.params.toList, T t) (F : Fr noB W W')
    (hr : f.resultTypes = #[tb]) (hb : P.underlying tb = some .bool) : s.post enc P f false true false false W args (.bool true) W' := by
  have hW' := hW
  have hold : ∀ p ∈ before, (fun b => decide (b < W.heap.size)) p.block = true := fun p hp => by simpa using hW.lt p hp
  obtain ⟨p, q, hA0, hV, hpq, hfz, hnd⟩ := hW
  have hA : DataW.TrodAll enc P W 0 (fun _ => true) true f.params.toList args.toList ds p := hA0
  rw [hvs] at hV
  obtain ⟨hg0, hq0⟩ := trodVars_none hV
  have hpp : before = p := by rw [hpq, hq0, List.append_nil]
  have hargs : ∀ sp : Nat → Bool, (∀ p ∈ before, sp p.block = true) → DataW.TrodAll enc P W' 0 sp true f.params.toList args.toList ds p := fun sp hsp =>
    trodAll_stays K hz F hT hA (fun x hx => hsp x (by rw [hpp]; exact hx))
  have hres : ∀ (b : Nat) (sp : Nat → Bool) (hd : Bool), DataW.TrodAll enc P W' b sp hd f.resultTypes.toList ((Value.bool true).resultList f.resultTypes.size) [.lit (.bool true)] [] := fun b sp hd => by
    rw [hr]
    exact trodAll_cons_mk (shut_bool hb _) trodAll_mk0
  have hvars : ∀ sp : Nat → Bool, DataW.TrodVars enc P W' sp s.vars (s.fn H (ds ++ gs)).vars [] := fun sp => by
    rw [hvs, hfn]
    rfl
  refine ⟨ds, gs, before, [], p, [], hW', by rw [hfn]; exact hres _ _ _, by rw [hfn]; exact hargs _ hold, hvars _, fr_keptBut F _, fun h => by cases h⟩
end
theorem kids : Kids Tryz.prog (· < Tryz.prog.types.size) := kids_rows (by kernel_rfl) (by kernel_rfl)
theorem full : ∀ t e, t < Tryz.prog.types.size → Tryz.prog.underlying t = some (.slice e) → 0 < Tryz.prog.cellsOf e := slices_full_of Tryz.prog (by kernel_rfl)
end Go.Proofs.YticokfpaoiekgaaGreatDoor
end
section
namespace Go.Proofs.YticokfpaoiekgaaGreatDoor
open Go.Lift Go.Lex Go.Shp Go.ChangeShapes Go.WideShapes Go.RowKit Go.Deep
theorem list_choose {α : Type} {n : Nat} {P : Nat → α → Prop} (h : ∀ i, i < n → ∃ x, P i x) : ∃ l : List α, l.length = n ∧ ∀ (i : Nat) x, l[i]? = some x → P i x := by
  have : ∀ k, k ≤ n → ∃ l : List α, l.length = k ∧ ∀ (i : Nat) x, l[i]? = some x → P i x := by
    intro k
    induction k with
    | zero => intro _; exact ⟨[], rfl, fun i x h => by simp at h⟩
    | succ k ih =>
      intro hk
      obtain ⟨l, hl, hp⟩ := ih (by omega)
      obtain ⟨x, hx⟩ := h k (by omega)
      refine ⟨l ++ [x], by simp [hl], fun i y hy => ?_⟩
      by_cases hi : i < l.length
      · rw [List.getElem?_append_left hi] at hy
        exact hp i y hy
      · have : i = l.length := by have := (List.getElem?_eq_some_iff.1 hy).1; simp at this; omega
        subst this
        simp at hy
        subst hy
        rw [hl]
        exact hx
  exact this n (Nat.le_refl _)
theorem spot_none {w : World} {a : Addr} {v : Value} (h : w.cell? a = some v) : a.spot = none := by
  unfold World.cell? at h
  split at h
  · split at h
    · cases h
    · rename_i hh
      cases hs : a.spot with
      | none => rfl
      | some _ => rw [hs] at hh; exact absurd rfl hh
  · cases h
section
variable {H : Type} {enc : TypeId × Value → H} {w : World}
theorem mem_all {P : Program} {e : TypeId} : ∀ {l : List (DataW H)} {d : DataW H} {y : Nat}, d ∈ l → y ∈ d.weights P e → y ∈ DataW.weightsAll P e l
  | x :: r, d, y, h, hy => by
    unfold DataW.weightsAll
    rcases List.mem_cons.1 h with rfl | h
    · exact List.mem_append_left _ hy
    · exact List.mem_append_right _ (mem_all h hy)
theorem uRowS : Tryz.prog.underlying 22 = some (.slice 9) := by kernel_rfl
theorem uRowP : Tryz.prog.underlying 23 = some (.slice 25) := by kernel_rfl
theorem uI : Tryz.prog.underlying 3 = some (.int .i64) := by kernel_rfl
theorem uS : Tryz.prog.underlying 9 = some .string := by kernel_rfl
theorem nI : Tryz.prog.cellsOf 3 = 1 := by kernel_rfl
theorem nS : Tryz.prog.cellsOf 9 = 1 := by kernel_rfl
theorem nRS : Tryz.prog.cellsOf 22 = 1 := by kernel_rfl
theorem nRP : Tryz.prog.cellsOf 23 = 1 := by kernel_rfl
theorem nP : Tryz.prog.cellsOf 25 = 5 := by kernel_rfl
theorem bS : Tryz.prog.bytesOf 9 = 16 := by kernel_rfl
theorem bP : Tryz.prog.bytesOf 25 = 88 := by kernel_rfl
theorem fieldsP : ∃ f0 f1 f2 f3 f4 : Field, Tryz.prog.underlying 25 = some (.struct #[f0, f1, f2, f3, f4]) ∧ (f0.offset = 0 ∧ f0.type = 3) ∧ (f1.offset = 1 ∧ f1.type = 9) ∧ (f2.offset = 2 ∧ f2.type = 9) ∧ (f3.offset = 3 ∧ f3.type = 22) ∧ (f4.offset = 4 ∧ f4.type = 23) := by
  have h : (Tryz.prog.underlying 25).map (fun d => match d with | .struct fs => fs.toList.map (fun f => (f.offset, f.type)) | _ => []) = some [(0, 3), (1, 9), (2, 9), (3, 22), (4, 23)] := by kernel_rfl
  cases hd : Tryz.prog.underlying 25 with
  | none => rw [hd] at h; cases h
  | some d =>
    rw [hd] at h
    cases d with
    | struct fs =>
      obtain ⟨l⟩ := fs
      match l with
      | [f0, f1, f2, f3, f4] => simp at h; exact ⟨f0, f1, f2, f3, f4, rfl, h.1, h.2.1, h.2.2.1, h.2.2.2.1, h.2.2.2.2⟩
      | [] => simp at h
      | [_] => simp at h
      | [_, _] => simp at h
      | [_, _, _] => simp at h
      | [_, _, _, _] => simp at h
      | _ :: _ :: _ :: _ :: _ :: _ :: _ => simp at h
    | _ => simp at h
theorem reach_eq : reachBytes = 140737488351232 := rfl
theorem trodAll_nil {P : Program} {vs : List Value} {ds : List (DataW H)} {ps : List MemPlace} (h : DataW.TrodAll enc P w 0 (fun _ => true) true [] vs ds ps) : vs = [] ∧ ds = [] := by
  cases vs <;> cases ds <;> simp [DataW.TrodAll] at h
  exact ⟨rfl, rfl⟩
theorem open_strs {fuel : Nat} {cs : List Value} {x : DataW H × List MemPlace} (h : DataW.trod enc Tryz.prog w 0 (fun _ => true) true fuel 22 cs = some x) (hb : ∀ y ∈ x.1.weights Tryz.prog 22, y ≤ reachBytes) :
    ∃ (s : Sl) (names : List B), cs = [.slice s.a s.n s.c] ∧ RdS w s (names.map bs) ∧ names.length < 4611686018427387904 ∧ ∀ y ∈ names, y.length < 4611686018427387904 := by
  rcases DataW.trod_slice uRowS h with ⟨rfl, _⟩ | ⟨a, len, cap, elems, rest, n, _, rfl, rfl, _, hl, hm, hlen, hel, _, _⟩
  · exact ⟨⟨none, 0, 0⟩, [], rfl, ⟨rfl, fun k x h => by simp at h⟩, by simp, fun y h => by simp at h⟩
  · rw [nS] at hel
    have hw : DataW.weights Tryz.prog 22 (.slice (elems.map (·.1)) (rest.map (·.1)) : DataW H) = ((elems.map (·.1)).length + (rest.map (·.1)).length) * Tryz.prog.bytesOf 9 :: (DataW.weightsAll Tryz.prog 9 (elems.map (·.1)) ++ DataW.weightsAll Tryz.prog 9 (rest.map (·.1))) := by
      unfold DataW.weights
      rw [uRowS]
    dsimp only at hb
    rw [hw, bS, List.length_map, List.length_map] at hb
    have hb0 := hb _ (List.mem_cons_self ..)
    rw [reach_eq] at hb0
    have each : ∀ i, i < len → ∃ y : B, w.cell? (a.add (i * 1)) = some (.string (bs y)) ∧ y.length ≤ reachBytes := fun i hi => by
      obtain ⟨e, he⟩ : ∃ e, elems[i]? = some e := ⟨_, List.getElem?_eq_getElem (by omega)⟩
      have h1 := hel i hi
      rw [he, Option.bind_eq_some_iff] at h1
      obtain ⟨cs', hc, ht⟩ := h1
      obtain ⟨s, rfl, rfl, _⟩ := DataW.trod_string uS ht
      obtain ⟨_, _, hcell⟩ := World.cells?_some hc
      refine ⟨bl s, ?_, ?_⟩
      · have := hcell 0 (by omega)
        rw [Addr.add_zero'] at this
        rw [this]
        show some (Value.string s) = _
        rw [bs_bl]
      · refine hb _ (List.mem_cons_of_mem _ (List.mem_append_left _ (mem_all (d := .lit (.string s.data.toList)) ?_ ?_)))
        · exact List.mem_map.2 ⟨_, List.mem_of_getElem? he, rfl⟩
        · unfold DataW.weights
          exact List.mem_singleton.2 rfl
    obtain ⟨names, hn, hp⟩ := list_choose each
    refine ⟨⟨some a, len, cap⟩, names, rfl, ⟨by rw [List.length_map]; exact hn.symm, fun k x hx => ?_⟩, by omega, fun y hy => ?_⟩
    · rw [List.getElem?_map] at hx
      cases hy : names[k]? with
      | none => rw [hy] at hx; cases hx
      | some y =>
        rw [hy] at hx
        cases hx
        exact ⟨a, rfl, (hp k y hy).1⟩
    · obtain ⟨j, hj⟩ := List.mem_iff_getElem?.1 hy
      have := (hp j y hj).2
      rw [reach_eq] at this
      omega
theorem w_str (P : Program) (t : TypeId) (l : List UInt8) : DataW.weights P t (.lit (.string l) : DataW H) = [l.length] := by unfold DataW.weights; rfl
set_option maxRecDepth 100000 in
theorem open_shapeC : ∀ (fuel : Nat) {cs : List Value} {x : DataW H × List MemPlace}, DataW.trod enc Tryz.prog w 0 (fun _ => true) true fuel 25 cs = some x → (∀ y ∈ x.1.weights Tryz.prog 25, y ≤ reachBytes) →
    ∃ (k : Int) (o n : ByteArray) (ns ps : Sl) (s : Shape), cs = shCells k o n ns ps ∧ ShV w k o n ns ps s := by
  intro fuel
  induction fuel using Nat.strongRecOn with
  | _ fuel ih =>
    intro cs x h hb
    obtain ⟨f0, f1, f2, f3, f4, hs, ⟨o0, t0⟩, ⟨o1, t1⟩, ⟨o2, t2⟩, ⟨o3, t3⟩, ⟨o4, t4⟩⟩ := fieldsP
    obtain ⟨xs, kf, rfl, rfl, hcl, hxl, hf⟩ := DataW.trod_struct hs h
    rw [nP] at hcl
    match xs, hxl, cs, hcl with
    | [y0, y1, y2, y3, y4], _, [v0, v1, v2, v3, v4], _ =>
      have g0 := hf 0 f0 rfl
      have g1 := hf 1 f1 rfl
      have g2 := hf 2 f2 rfl
      have g3 := hf 3 f3 rfl
      have g4 := hf 4 f4 rfl
      simp [o0, t0, nI] at g0
      simp [o1, t1, nS] at g1
      simp [o2, t2, nS] at g2
      simp [o3, t3, nRS] at g3
      simp [o4, t4, nRP] at g4
      obtain ⟨z0, e0, _, _⟩ := DataW.trod_int uI g0
      obtain ⟨s1, e1, ex1, _⟩ := DataW.trod_string uS g1
      obtain ⟨s2, e2, ex2, _⟩ := DataW.trod_string uS g2
      simp only [List.cons.injEq, and_true] at e0 e1 e2
      subst e0 e1 e2
      have hw : DataW.weights Tryz.prog 25 (.agg (List.map (·.1) [y0, y1, y2, y3, y4]) : DataW H) = y0.1.weights Tryz.prog 3 ++ (y1.1.weights Tryz.prog 9 ++ (y2.1.weights Tryz.prog 9 ++ (y3.1.weights Tryz.prog 22 ++ (y4.1.weights Tryz.prog 23 ++ [])))) := by
        conv => lhs; unfold DataW.weights
        rw [hs]
        simp only [List.map_cons, List.map_nil, t0, t1, t2, t3, t4, DataW.weightsEach]
      dsimp only at hb
      rw [hw] at hb
      have hb1 : ∀ y ∈ y1.1.weights Tryz.prog 9, y ≤ reachBytes := fun y hy => hb y (by simp [hy])
      have hb2 : ∀ y ∈ y2.1.weights Tryz.prog 9, y ≤ reachBytes := fun y hy => hb y (by simp [hy])
      have hb3 : ∀ y ∈ y3.1.weights Tryz.prog 22, y ≤ reachBytes := fun y hy => hb y (by simp [hy])
      have hb4 : ∀ y ∈ y4.1.weights Tryz.prog 23, y ≤ reachBytes := fun y hy => hb y (by simp [hy])
      rw [ex1] at hb1
      rw [ex2] at hb2
      have hs1 := hb1 _ (by rw [w_str]; exact List.mem_singleton.2 rfl)
      have hs2 := hb2 _ (by rw [w_str]; exact List.mem_singleton.2 rfl)
      have es1 : s1.data.toList.length = s1.size := Array.length_toList
      have es2 : s2.data.toList.length = s2.size := Array.length_toList
      rw [reach_eq] at hs1 hs2
      obtain ⟨ns, names, e3, hR, hnl, hnz⟩ := open_strs g3 hb3
      simp only [List.cons.injEq, and_true] at e3
      subst e3
      rcases DataW.trod_slice uRowP g4 with ⟨e4, _⟩ | ⟨a, len, cap, elems, rest, n, hn, e4, ex4, _, hl, hm, hlen, hel, _, _⟩
      · simp only [List.cons.injEq, and_true] at e4
        subst e4
        refine ⟨z0, s1, s2, ns, ⟨none, 0, 0⟩, .mk z0 (bl s1) (bl s2) names [], rfl, ?_⟩
        unfold ShV
        refine ⟨rfl, rfl, rfl, ⟨hR, hnl, rfl, by simp, by omega, by omega, hnz⟩, ?_⟩
        unfold ShL
        trivial
      · simp only [List.cons.injEq, and_true] at e4
        subst e4
        rw [nP] at hel
        rw [ex4] at hb4
        have hw4 : DataW.weights Tryz.prog 23 (.slice (elems.map (·.1)) (rest.map (·.1)) : DataW H) = ((elems.map (·.1)).length + (rest.map (·.1)).length) * Tryz.prog.bytesOf 25 :: (DataW.weightsAll Tryz.prog 25 (elems.map (·.1)) ++ DataW.weightsAll Tryz.prog 25 (rest.map (·.1))) := by
          conv => lhs; unfold DataW.weights
          rw [uRowP]
        dsimp only at hb4
        rw [hw4, bP, List.length_map, List.length_map] at hb4
        have hb40 := hb4 _ (List.mem_cons_self ..)
        rw [reach_eq] at hb40
        have each : ∀ i, i < len → ∃ q : (Int × ByteArray × ByteArray × Sl × Sl) × Shape, Held w (a.add (i * 5), shCells q.1.1 q.1.2.1 q.1.2.2.1 q.1.2.2.2.1 q.1.2.2.2.2) ∧ ShV w q.1.1 q.1.2.1 q.1.2.2.1 q.1.2.2.2.1 q.1.2.2.2.2 q.2 := fun i hi => by
          obtain ⟨e, he⟩ : ∃ e, elems[i]? = some e := ⟨_, List.getElem?_eq_getElem (by omega)⟩
          have h1 := hel i hi
          rw [he, Option.bind_eq_some_iff] at h1
          obtain ⟨cs', hc, ht⟩ := h1
          obtain ⟨k', o', n', ns', ps', s', rfl, hv⟩ := ih n (by omega) ht fun y hy => hb4 y (List.mem_cons_of_mem _ (List.mem_append_left _ (mem_all (d := e.1) (List.mem_map.2 ⟨_, List.mem_of_getElem? he, rfl⟩) hy)))
          obtain ⟨_, _, hcell⟩ := World.cells?_some hc
          refine ⟨((k', o', n', ns', ps'), s'), fun j u hj => ?_, hv⟩
          have hj5 : j < 5 := (List.getElem?_eq_some_iff.1 hj).1
          rw [hcell j hj5]
          exact hj
        obtain ⟨L, hL, hp⟩ := list_choose each
        refine ⟨z0, s1, s2, ns, ⟨some a, len, cap⟩, .mk z0 (bl s1) (bl s2) names (L.map (·.2)), rfl, ?_⟩
        unfold ShV
        refine ⟨rfl, rfl, rfl, ⟨hR, hnl, by rw [List.length_map]; exact hL.symm, by rw [List.length_map]; omega, by omega, by omega, hnz⟩, ?_⟩
        refine shL_of fun j s hj => ?_
        rw [List.getElem?_map] at hj
        cases hq : L[j]? with
        | none => rw [hq] at hj; cases hj
        | some q =>
          rw [hq] at hj
          cases hj
          obtain ⟨hh, hv⟩ := hp j q hq
          have hsp : a.spot = none := by
            have hj1 := (List.getElem?_eq_some_iff.1 hq).1
            obtain ⟨q0, hq0⟩ : ∃ q0, L[0]? = some q0 := ⟨_, List.getElem?_eq_getElem (by omega)⟩
            have hc0 := (hp 0 q0 hq0).1 0 _ rfl
            rw [Nat.zero_mul, Addr.add_zero', Addr.add_zero'] at hc0
            exact spot_none hc0
          obtain ⟨b, o, sp⟩ := a
          change sp = none at hsp
          subst hsp
          have at' : ∀ c u, (shCells q.1.1 q.1.2.1 q.1.2.2.1 q.1.2.2.2.1 q.1.2.2.2.2)[c]? = some u → w.cell? ⟨b, o + (0 + j) * 5 + c, none⟩ = some u := fun c u hu => by
            have := hh c u hu
            rw [Addr.add_lit, Addr.add_lit] at this
            rw [Nat.zero_add]
            exact this
          exact ⟨b, o, q.1.1, q.1.2.1, q.1.2.2.1, q.1.2.2.2.1, q.1.2.2.2.2, rfl, at' 0 _ rfl, at' 1 _ rfl, at' 2 _ rfl, at' 3 _ rfl, at' 4 _ rfl, hv⟩
theorem open_shape {v : Value} {d : DataW H} {p : List MemPlace} (h : DataW.Trod enc Tryz.prog w 0 (fun _ => true) true 25 v d p) (hb : ∀ y ∈ d.weights Tryz.prog 25, y ≤ reachBytes) :
    ∃ (k : Int) (o n : ByteArray) (ns ps : Sl) (s : Shape), v = shArg k o n ns ps ∧ ShV w k o n ns ps s := by
  obtain ⟨fuel, hf⟩ := h
  obtain ⟨k, o, n, ns, ps, s, hcs, hv⟩ := open_shapeC fuel hf hb
  refine ⟨k, o, n, ns, ps, s, ?_, hv⟩
  cases v with
  | agg xs =>
    obtain ⟨l⟩ := xs
    have : l = shCells k o n ns ps := hcs
    subst this
    rfl
  | _ => exact absurd (congrArg List.length hcs) (by simp [Value.cells, shCells])
end
end Go.Proofs.YticokfpaoiekgaaGreatDoor
end
section
namespace Go.Proofs.YticokfpaoiekgaaGreatDoor.finderRanks
open Go.Lift Go.ChangeShapes Go.WideShapes Go.ChangeAt Go.RowKit
theorem params : Tryz.f3.params = #[25, 25] := by kernel_rfl
theorem witness_row (os : Os) {H : Type} (enc : TypeId × Value → H) :
    (OpenSpec.ofChange Rows.finderRanksSpec).preRow enc Tryz.prog Tryz.f3 Rows.finderRanksRow.domain false Rows.finderRanksRow.laid ((doorWorld os).forCall (fun _ _ => 0) ⟨#[], #[(.agg #[.int .i64 0, .string ⟨#[]⟩, .string ⟨#[]⟩, .slice none 0 0, .slice none 0 0] : Value), .agg #[.int .i64 0, .string ⟨#[]⟩, .string ⟨#[]⟩, .slice none 0 0, .slice none 0 0]], []⟩).memory #[(.agg #[.int .i64 0, .string ⟨#[]⟩, .string ⟨#[]⟩, .slice none 0 0, .slice none 0 0] : Value), .agg #[.int .i64 0, .string ⟨#[]⟩, .string ⟨#[]⟩, .slice none 0 0, .slice none 0 0]] := by
  have hw : (DataW.whole enc Tryz.prog ((doorWorld os).forCall (fun _ _ => 0) ⟨#[], #[(.agg #[.int .i64 0, .string ⟨#[]⟩, .string ⟨#[]⟩, .slice none 0 0, .slice none 0 0] : Value), .agg #[.int .i64 0, .string ⟨#[]⟩, .string ⟨#[]⟩, .slice none 0 0, .slice none 0 0]], []⟩).memory Tryz.f3.params.toList (OpenSpec.ofChange Rows.finderRanksSpec).vars false #[(.agg #[.int .i64 0, .string ⟨#[]⟩, .string ⟨#[]⟩, .slice none 0 0, .slice none 0 0] : Value), .agg #[.int .i64 0, .string ⟨#[]⟩, .string ⟨#[]⟩, .slice none 0 0, .slice none 0 0]].toList 8).map (fun x => (x.1, x.2.1)) =
      some ([.agg [.lit (.int .i64 0), .lit (.string []), .lit (.string []), .nil, .nil], .agg [.lit (.int .i64 0), .lit (.string []), .lit (.string []), .nil, .nil]], []) := by kernel_rfl
  obtain ⟨⟨x1, x2, x3⟩, hx, hx1⟩ := Option.map_eq_some_iff.1 hw
  simp only [Prod.mk.injEq] at hx1
  obtain ⟨rfl, rfl⟩ := hx1
  exact OpenSpec.preRow_of_cond 8 hx (by kernel_rfl) (fun k hk => by cases hk) (by kernel_rfl) (door_met os _)
theorem witness (os : Os) {H : Type} (enc : TypeId × Value → H) : ∃ (w : World) (tape : Tape) (i : Input), w.os = os ∧ (w.forCall tape i).Shaped Tryz.checked.prog ∧ i.vars = [] ∧ Input.okWide Tryz.checked.prog (w.forCall tape i) .any w.heap.size 3 i ∧
      (OpenSpec.ofChange Rows.finderRanksSpec).preRow enc Tryz.checked.prog Tryz.f3 Rows.finderRanksRow.domain false Rows.finderRanksRow.laid (w.forCall tape i).memory i.args ∧ ({} : Assume).holds Tryz.checked.prog (lone (Frame.enter Tryz.checked.prog 3 i.args .normal) [] (w.forCall tape i)) := by
  have hok : Input.okWideB Tryz.prog ((doorWorld os).forCall (fun _ _ => 0) ⟨#[], #[(.agg #[.int .i64 0, .string ⟨#[]⟩, .string ⟨#[]⟩, .slice none 0 0, .slice none 0 0] : Value), .agg #[.int .i64 0, .string ⟨#[]⟩, .string ⟨#[]⟩, .slice none 0 0, .slice none 0 0]], []⟩) 3 ⟨#[], #[(.agg #[.int .i64 0, .string ⟨#[]⟩, .string ⟨#[]⟩, .slice none 0 0, .slice none 0 0] : Value), .agg #[.int .i64 0, .string ⟨#[]⟩, .string ⟨#[]⟩, .slice none 0 0, .slice none 0 0]], []⟩ = true := by kernel_rfl
  refine ⟨doorWorld os, fun _ _ => 0, ⟨#[], #[(.agg #[.int .i64 0, .string ⟨#[]⟩, .string ⟨#[]⟩, .slice none 0 0, .slice none 0 0] : Value), .agg #[.int .i64 0, .string ⟨#[]⟩, .string ⟨#[]⟩, .slice none 0 0, .slice none 0 0]], []⟩, rfl, World.shaped_of_RefB (by kernel_rfl) (by kernel_rfl), rfl, (Input.okWide_of_okWideB hok).2, witness_row os enc, ?_⟩
  simp only [Assume.holds]
  exact ⟨by simp, by simp, (fun h => by cases h), by simp, by simp⟩
set_option maxRecDepth 100000 in
theorem lifted (os : Os) (started : os.Started) (H : Type) (enc : TypeId × Value → H) (F : Stop.Interp) :
    ReturnsInHanded {} Tryz.checked os 3 .any ((OpenSpec.ofChange Rows.finderRanksSpec).preRow enc Tryz.prog Tryz.f3 Rows.finderRanksRow.domain false Rows.finderRanksRow.laid) (((OpenSpec.ofChange Rows.finderRanksSpec).at F).post enc Tryz.prog Tryz.f3 false true false false) := by
  refine returnsInHanded_of_row (C := Tryz.checked) (s := OpenSpec.ofChange Rows.finderRanksSpec) own started (by kernel_rfl) Tryz.func3 (witness os enc) ?_
  intro W base args ds gs before _ hW _ _ hsz hL hS _
  have hW' := hW
  obtain ⟨p, q, hA0, hV0, rfl, _, _⟩ := hW
  have hA : DataW.TrodAll enc Tryz.prog W 0 (fun _ => true) true Tryz.f3.params.toList args.toList ds p := hA0
  rw [params] at hA hsz
  obtain ⟨al0⟩ := args
  change DataW.TrodAll enc Tryz.prog W 0 (fun _ => true) true _ al0 ds p at hA
  obtain ⟨v0, al, d0, dl, p0, q0, rfl, rfl, _, h0, hA⟩ := trodAll_cons hA
  obtain ⟨v1, al, d1, dl, p1, q1, rfl, rfl, _, h1, hA⟩ := trodAll_cons hA
  obtain ⟨rfl, rfl⟩ := trodAll_nil hA
  obtain ⟨k0, o0, n0, ns0, ps0, s0, rfl, hv0⟩ := open_shape h0 (fun y hy => by
    have hy2 : y ∈ DataW.weights Tryz.checked.prog 25 d0 := hy
    have h1 := List.all_eq_true.1 hsz y (by simp [DataW.weightsEach, hy2])
    exact of_decide_eq_true h1)
  obtain ⟨k1, o1, n1, ns1, ps1, s1, rfl, hv1⟩ := open_shape h1 (fun y hy => by
    have hy2 : y ∈ DataW.weights Tryz.checked.prog 25 d1 := hy
    have h1 := List.all_eq_true.1 hsz y (by simp [DataW.weightsEach, hy2])
    exact of_decide_eq_true h1)
  obtain ⟨rfl, rfl⟩ := trodVars_none hV0
  refine (FinderRanks_ok (globs hL hS) hv0 hv1).mono ?_
  rintro e W' ⟨rfl, F1⟩
  exact ⟨_, rfl, post_true (s := Rows.finderRanksSpec) rfl hW' rfl kids full (by rw [params]; decide) F1 (tb := 4) (by kernel_rfl) (by kernel_rfl)⟩
theorem row_holds : Rows.FinderRanksSaid :=
  OpenClaim.holds_of_cond 3 Tryz.f3 rfl rfl rfl rfl rfl rfl rfl ⟨rfl, rfl, rfl, rfl, rfl⟩ rfl rfl rfl rfl rfl (by kernel_rfl) Tryz.func3 (by kernel_rfl)
    (of_decide_eq_true (by kernel_rfl)) (by unfold Func.isWrapper; rw [if_neg (of_decide_eq_false (by kernel_rfl))]; exact ⟨rfl, rfl⟩)
    (fun os started H enc _ F0 => by rw [OpenClaim.pre_eq_preRow]; exact lifted os started H enc F0)
end Go.Proofs.YticokfpaoiekgaaGreatDoor.finderRanks
end
section
namespace Go.Proofs.YticokfpaoiekgaaGreatDoor.finderRanks
open Go
theorem proved : Rows.FinderRanksCardSaid :=
  Claim7.holds_tied_plain_at .later [] [.data, .data, .data, .data, .sentinel, .sentinel, .pinned] true (true, "dcab370bff810923f36f2aacf27502e73d99faac3a9d6e23c30e896bd55015f0") true
    row_holds (fun _ h => by cases h) (by kernel_rfl) (fun _ h => by cases h) finderRanks_row_tie rfl ⟨rfl, rfl⟩ (by kernel_rfl) rfl
    (fun f fn hf hfn => by
      obtain rfl : f = 3 := Option.some.inj ((show Tryz.prog.funcNamed "pandect/pandectlaw35.FinderRanks" = some 3 by kernel_rfl).symm.trans hf) |>.symm
      obtain rfl : fn = Tryz.f3 := (Option.some.inj (Tryz.func3.symm.trans hfn)).symm
      exact ⟨by kernel_rfl, fun j t ht => by
        rw [params] at ht
        rcases j with _ | _ | j
        · obtain rfl : t = 25 := by simpa using ht.symm
          exact (show Tryz.prog.wantsStandIn 25 = false by kernel_rfl)
        · obtain rfl : t = 25 := by simpa using ht.symm
          exact (show Tryz.prog.wantsStandIn 25 = false by kernel_rfl)
        · simp at ht⟩)
    (by kernel_rfl)
end Go.Proofs.YticokfpaoiekgaaGreatDoor.finderRanks
end
