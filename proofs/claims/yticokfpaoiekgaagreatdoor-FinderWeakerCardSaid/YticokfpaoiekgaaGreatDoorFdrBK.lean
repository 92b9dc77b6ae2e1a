/- The law behind: one part of its proof (joined by program out of my own texts). No condition. -/
import Derived.Test.YticokfpaoiekgaaGreatDoorFdrBJ
import Derived.OpenShut
import Derived.ChangeMaps5
section
set_option maxRecDepth 100000
namespace Go.Proofs.YticokfpaoiekgaaGreatDoor
open Go.Lift Go.Lex Go.Shp Go.ChangeShapes Go.WideShapes Go.RowKit Go.Deep
section
variable {H : Type} {enc : TypeId × Value → H} {w : World}
theorem open_row {α : Type} {T e : TypeId} {sz bz : Nat} (hu : Tryz.prog.underlying T = some (.slice e)) (hn : Tryz.prog.cellsOf e = sz) (hbz : Tryz.prog.bytesOf e = bz) (hsz : 0 < sz) {Q : α → List Value → Prop}
  (el : ∀ {fuel : Nat} {cs : List Value} {x : DataW H × List MemPlace}, DataW.trod enc Tryz.prog w 0 (fun _ => true) true fuel e cs = some x → (∀ y ∈ x.1.weights Tryz.prog e, y ≤ reachBytes) → ∃ q : α, Q q cs)
  {fuel : Nat} {cs : List Value} {x : DataW H × List MemPlace} (h : DataW.trod enc Tryz.prog w 0 (fun _ => true) true fuel T cs = some x) (hb : ∀ y ∈ x.1.weights Tryz.prog T, y ≤ reachBytes) :
  ∃ (s : Sl) (L : List α), cs = [.slice s.a s.n s.c] ∧ s.n = L.length ∧ L.length * bz ≤ 140737488351232 ∧ ∀ (i : Nat) q, L[i]? = some q → ∃ (g off : Nat) (cs' : List Value), s.a = some ⟨g, off, none⟩ ∧ Held w (⟨g, off + i * sz, none⟩, cs') ∧ cs'.length = sz ∧ Q q cs' := by
 rcases DataW.trod_slice hu h with ⟨rfl, _⟩ | ⟨a, len, cap, elems, rest, n, _, rfl, rfl, _, hl, hm, hlen, hel, _, _⟩
 ·exact ⟨⟨none, 0, 0⟩, [], rfl, rfl, by simp, fun i q h => by simp at h⟩
 ·rw [hn] at hel
  have hw : DataW.weights Tryz.prog T (.slice (elems.map (·.1)) (rest.map (·.1)) : DataW H) = ((elems.map (·.1)).length + (rest.map (·.1)).length) * Tryz.prog.bytesOf e :: (DataW.weightsAll Tryz.prog e (elems.map (·.1)) ++ DataW.weightsAll Tryz.prog e (rest.map (·.1))) := by
   conv => lhs; unfold DataW.weights
   rw [hu]
  dsimp only at hb
  rw [hw, hbz, List.length_map, List.length_map] at hb
  have hb0 := hb _ (List.mem_cons_self ..)
  rw [reach_eq] at hb0
  have each : ∀ i, i < len → ∃ q : α × List Value, Q q.1 q.2 ∧ q.2.length = sz ∧ ∀ j, j < sz → w.cell? ((a.add (i * sz)).add j) = q.2[j]? := fun i hi => by
   obtain ⟨e', he⟩ : ∃ e', elems[i]? = some e' := ⟨_, List.getElem?_eq_getElem (by omega)⟩
   have h1 := hel i hi
   rw [he, Option.bind_eq_some_iff] at h1
   obtain ⟨cs', hc, ht⟩ := h1
   obtain ⟨_, hc1, hcell⟩ := World.cells?_some hc
   obtain ⟨q, hq⟩ := el ht fun y hy => hb y (List.mem_cons_of_mem _ (List.mem_append_left _ (mem_all (d := e'.1) (List.mem_map.2 ⟨_, List.mem_of_getElem? he, rfl⟩) hy)))
   exact ⟨(q, cs'), hq, hc1, hcell⟩
  obtain ⟨L, hL, hp⟩ := list_choose each
  refine ⟨⟨some a, len, cap⟩, L.map (·.1), rfl, by rw [List.length_map]; exact hL.symm, ?_, fun i q hq => ?_⟩
  ·rw [List.length_map, hL, ← hlen]
   exact Nat.le_trans (Nat.mul_le_mul_right _ (Nat.le_add_right _ _)) hb0
  ·rw [List.getElem?_map] at hq
   cases hy : L[i]? with
   | none => rw [hy] at hq; cases hq
   | some y =>
    rw [hy] at hq
    cases hq
    obtain ⟨h1, h2, h3⟩ := hp i y hy
    have hsp : a.spot = none := by
     have hi1 := (List.getElem?_eq_some_iff.1 hy).1
     obtain ⟨y0, hy0⟩ : ∃ y0, L[0]? = some y0 := ⟨_, List.getElem?_eq_getElem (by omega)⟩
     obtain ⟨_, g2, g3⟩ := hp 0 y0 hy0
     have h0 := g3 0 hsz
     rw [Nat.zero_mul, Addr.add_zero', Addr.add_zero', List.getElem?_eq_getElem (by omega)] at h0
     exact spot_none h0
    obtain ⟨b, o, sp⟩ := a
    change sp = none at hsp
    subst hsp
    refine ⟨b, o, y.2, rfl, fun j u hj => ?_, h2, h1⟩
    change y.2[j]? = some u at hj
    have hj1 : j < sz := by have := (List.getElem?_eq_some_iff.1 hj).1; omega
    show w.cell? ((⟨b, o + i * sz, none⟩ : Addr).add j) = some u
    rw [← hj, ← h3 j hj1, Addr.add_lit, Addr.add_lit, Addr.add_lit]
theorem fieldsI : ∃ f0 f1 f2 : Field, Tryz.prog.underlying 44 = some (.struct #[f0, f1, f2]) ∧ (f0.offset = 0 ∧ f0.type = 3) ∧ (f1.offset = 1 ∧ f1.type = 9) ∧ (f2.offset = 2 ∧ f2.type = 25) := by
 have h : (Tryz.prog.underlying 44).map (fun d => match d with | .struct fs => fs.toList.map (fun f => (f.offset, f.type)) | _ => []) = some [(0, 3), (1, 9), (2, 25)] := by kernel_rfl
 cases hd : Tryz.prog.underlying 44 with
 | none => rw [hd] at h; cases h
 | some d =>
  rw [hd] at h
  cases d with
  | struct fs =>
   obtain ⟨l⟩ := fs
   match l with
   | [f0, f1, f2] => simp at h; exact ⟨f0, f1, f2, rfl, h.1, h.2.1, h.2.2⟩
   | [] => simp at h
   | [_] => simp at h
   | [_, _] => simp at h
   | _ :: _ :: _ :: _ :: _ => simp at h
  | _ => simp at h
theorem fieldsD : ∃ f0 f1 : Field, Tryz.prog.underlying 42 = some (.struct #[f0, f1]) ∧ (f0.offset = 0 ∧ f0.type = 9) ∧ (f1.offset = 1 ∧ f1.type = 40) := by
 have h : (Tryz.prog.underlying 42).map (fun d => match d with | .struct fs => fs.toList.map (fun f => (f.offset, f.type)) | _ => []) = some [(0, 9), (1, 40)] := by kernel_rfl
 cases hd : Tryz.prog.underlying 42 with
 | none => rw [hd] at h; cases h
 | some d =>
  rw [hd] at h
  cases d with
  | struct fs =>
   obtain ⟨l⟩ := fs
   match l with
   | [f0, f1] => simp at h; exact ⟨f0, f1, rfl, h.1, h.2⟩
   | [] => simp at h
   | [_] => simp at h
   | _ :: _ :: _ :: _ => simp at h
  | _ => simp at h
theorem size_len (s : ByteArray) : s.data.toList.length = s.size := Array.length_toList
theorem open_itemC {fuel : Nat} {cs : List Value} {x : DataW H × List MemPlace} (h : DataW.trod enc Tryz.prog w 0 (fun _ => true) true fuel 44 cs = some x) (hb : ∀ y ∈ x.1.weights Tryz.prog 44, y ≤ reachBytes) :
  ∃ it : Thing, ∃ (kd : Int) (nm : ByteArray) (k : Int) (o n : ByteArray) (ns ps : Sl), cs = itCells kd nm k o n ns ps ∧ ItV w kd nm k o n ns ps it := by
 obtain ⟨f0, f1, f2, hs, ⟨o0, t0⟩, ⟨o1, t1⟩, ⟨o2, t2⟩⟩ := fieldsI
 obtain ⟨xs, kf, rfl, rfl, hcl, hxl, hf⟩ := DataW.trod_struct hs h
 rw [nIt] at hcl
 match xs, hxl, cs, hcl with
 | [y0, y1, y2], _, [v0, v1, v2, v3, v4, v5, v6], _ =>
  have g0 := hf 0 f0 rfl
  have g1 := hf 1 f1 rfl
  have g2 := hf 2 f2 rfl
  simp [o0, t0, nI] at g0
  simp [o1, t1, nS] at g1
  simp [o2, t2, nP] at g2
  obtain ⟨z0, e0, _, _⟩ := DataW.trod_int uI g0
  obtain ⟨s1, e1, ex1, _⟩ := DataW.trod_string uS g1
  simp only [List.cons.injEq, and_true] at e0 e1
  subst e0 e1
  have hw : DataW.weights Tryz.prog 44 (.agg (List.map (·.1) [y0, y1, y2]) : DataW H) = y0.1.weights Tryz.prog 3 ++ (y1.1.weights Tryz.prog 9 ++ (y2.1.weights Tryz.prog 25 ++ [])) := by
   conv => lhs; unfold DataW.weights
   rw [hs]
   simp only [List.map_cons, List.map_nil, t0, t1, t2, DataW.weightsEach]
  dsimp only at hb
  rw [hw] at hb
  have hb1 : ∀ y ∈ y1.1.weights Tryz.prog 9, y ≤ reachBytes := fun y hy => hb y (by simp [hy])
  have hb2 : ∀ y ∈ y2.1.weights Tryz.prog 25, y ≤ reachBytes := fun y hy => hb y (by simp [hy])
  rw [ex1] at hb1
  have hs1 := hb1 _ (by rw [w_str]; exact List.mem_singleton.2 rfl)
  have es1 := size_len s1
  rw [reach_eq] at hs1
  obtain ⟨k, o, n, ns, ps, s, hcs, hv⟩ := open_shapeC _ g2 hb2
  refine ⟨⟨z0, bl s1, s⟩, z0, s1, k, o, n, ns, ps, ?_, rfl, rfl, by omega, hv⟩
  unfold itCells
  rw [hcs]
  rfl
theorem open_depC {fuel : Nat} {cs : List Value} {x : DataW H × List MemPlace} (h : DataW.trod enc Tryz.prog w 0 (fun _ => true) true fuel 42 cs = some x) (hb : ∀ y ∈ x.1.weights Tryz.prog 42, y ≤ reachBytes) :
  ∃ d : Dep, ∃ (nm : ByteArray) (its : Sl), cs = [.string nm, .slice its.a its.n its.c] ∧ DpV w nm its d := by
 obtain ⟨f0, f1, hs, ⟨o0, t0⟩, ⟨o1, t1⟩⟩ := fieldsD
 obtain ⟨xs, kf, rfl, rfl, hcl, hxl, hf⟩ := DataW.trod_struct hs h
 rw [nD] at hcl
 match xs, hxl, cs, hcl with
 | [y0, y1], _, [v0, v1], _ =>
  have g0 := hf 0 f0 rfl
  have g1 := hf 1 f1 rfl
  simp [o0, t0, nS] at g0
  simp [o1, t1, nRI] at g1
  obtain ⟨s0, e0, ex0, _⟩ := DataW.trod_string uS g0
  simp only [List.cons.injEq, and_true] at e0
  subst e0
  have hw : DataW.weights Tryz.prog 42 (.agg (List.map (·.1) [y0, y1]) : DataW H) = y0.1.weights Tryz.prog 9 ++ (y1.1.weights Tryz.prog 40 ++ []) := by
   conv => lhs; unfold DataW.weights
   rw [hs]
   simp only [List.map_cons, List.map_nil, t0, t1, DataW.weightsEach]
  dsimp only at hb
  rw [hw] at hb
  have hb0 : ∀ y ∈ y0.1.weights Tryz.prog 9, y ≤ reachBytes := fun y hy => hb y (by simp [hy])
  have hb1 : ∀ y ∈ y1.1.weights Tryz.prog 40, y ≤ reachBytes := fun y hy => hb y (by simp [hy])
  rw [ex0] at hb0
  have hs0 := hb0 _ (by rw [w_str]; exact List.mem_singleton.2 rfl)
  have es0 := size_len s0
  rw [reach_eq] at hs0
  obtain ⟨s, L, hcs, hn, hl, hL⟩ := open_row uRowI nIt bI (by omega) open_itemC g1 hb1
  simp only [List.cons.injEq, and_true] at hcs
  subst hcs
  refine ⟨⟨bl s0, L⟩, s0, s, rfl, rfl, by omega, hn, by show L.length < _; omega, fun i it hi => ?_⟩
  obtain ⟨g, off, cs', h1, h2, h3, kd, nm, k, o, n, ns, ps, rfl, h4⟩ := hL i it hi
  exact ⟨g, off, kd, nm, k, o, n, ns, ps, h1, h2, h4⟩
theorem open_deps {v : Value} {d : DataW H} {p : List MemPlace} {r : Reach} {b0 : Nat} (hv : Value.okWide Tryz.prog w r b0 29 v) (h : DataW.Trod enc Tryz.prog w 0 (fun _ => true) true 29 v d p) (hb : ∀ y ∈ d.weights Tryz.prog 29, y ≤ reachBytes) :
  ∃ (s : Sl) (D : List Dep), v = .slice s.a s.n s.c ∧ DpR w s D := by
 obtain ⟨a0, len, cap, rfl⟩ := okWide_slice uRowD hv
 obtain ⟨fuel, hf⟩ := h
 obtain ⟨s, L, hcs, hn, hl, hL⟩ := open_row uRowD nD bD (by omega) open_depC hf hb
 simp [Value.cells] at hcs
 obtain ⟨rfl, rfl, rfl⟩ := hcs
 refine ⟨s, L, rfl, hn, by omega, fun i d hi => ?_⟩
 obtain ⟨g, off, cs', h1, h2, h3, nm, its, rfl, h4⟩ := hL i d hi
 have e1 := h2 1 _ rfl
 rw [Addr.add_lit] at e1
 have e0 := h2 0 _ rfl
 rw [Addr.add_lit, Nat.add_zero] at e0
 exact ⟨g, off, nm, its, h1, e0, e1, h4⟩
theorem open_intA {v : Value} {d : DataW H} {p : List MemPlace} {r : Reach} {b0 : Nat} (hv : Value.okWide Tryz.prog w r b0 3 v) (h : DataW.Trod enc Tryz.prog w 0 (fun _ => true) true 3 v d p) : ∃ n : Int, v = .int .i64 n ∧ (-9223372036854775808 ≤ n ∧ n ≤ 9223372036854775807) := by
 obtain ⟨n, h1, _, _, h2⟩ := open_int uI hv h
 refine ⟨n, h1, ?_⟩
 simp [Lit.wf, IntKind.min, IntKind.max, IntKind.signed, IntKind.bits] at h2
 omega
theorem open_textA {v : Value} {d : DataW H} {p : List MemPlace} {r : Reach} {b0 : Nat} (hv : Value.okWide Tryz.prog w r b0 9 v) (h : DataW.Trod enc Tryz.prog w 0 (fun _ => true) true 9 v d p) (hb : ∀ y ∈ d.weights Tryz.prog 9, y ≤ reachBytes) : ∃ s : ByteArray, v = .string s ∧ s.size ≤ 140737488351232 := by
 obtain ⟨s, h1, h2, _, _⟩ := Go.ChangeMaps.open_string uS hv h
 refine ⟨s, h1, ?_⟩
 rw [h2] at hb
 have := hb _ (by rw [w_str]; exact List.mem_singleton.2 rfl)
 rw [size_len, reach_eq] at this
 exact this
theorem uTwo : Tryz.prog.underlying 48 = some (.array 2 3) := by kernel_rfl
theorem nTwo : Tryz.prog.cellsOf 48 = 2 := by kernel_rfl
theorem open_two {v : Value} {d : DataW H} {p : List MemPlace} {r : Reach} {b0 : Nat} (hv : Value.okWide Tryz.prog w r b0 48 v) (h : DataW.Trod enc Tryz.prog w 0 (fun _ => true) true 48 v d p) : ∃ a b : Int, v = .agg #[.int .i64 a, .int .i64 b] ∧ (-9223372036854775808 ≤ a ∧ a ≤ 9223372036854775807) ∧ (-9223372036854775808 ≤ b ∧ b ≤ 9223372036854775807) := by
 have hv' : ∃ cs : Array Value, v = .agg cs ∧ cs.size = 2 := by
  simp only [Value.okWide, uTwo] at hv
  obtain ⟨cs, h1, h2, _⟩ := hv
  exact ⟨cs, h1, by rw [h2, nTwo]⟩
 obtain ⟨⟨l⟩, rfl, hl⟩ := hv'
 obtain ⟨fuel, hf⟩ := h
 match l, hl with
 | [x, y], _ =>
  have hf2 : DataW.trod enc Tryz.prog w 0 (fun _ => true) true fuel 48 [x, y] = some (d, p) := hf
  obtain ⟨xs, m, _, _, _, hxl, hel⟩ := Go.DataW.trod_array uTwo hf2
  match xs, hxl with
  | [q0, q1], _ =>
   have g0 := hel 0 (by omega)
   have g1 := hel 1 (by omega)
   simp [nI] at g0 g1
   obtain ⟨z0, e0, _, w0⟩ := DataW.trod_int uI g0
   obtain ⟨z1, e1, _, w1⟩ := DataW.trod_int uI g1
   simp only [List.cons.injEq, and_true] at e0 e1
   subst e0 e1
   refine ⟨z0, z1, rfl, ?_, ?_⟩
   ·simp [Lit.wf, IntKind.min, IntKind.max, IntKind.signed, IntKind.bits] at w0
    omega
   ·simp [Lit.wf, IntKind.min, IntKind.max, IntKind.signed, IntKind.bits] at w1
    omega
end
end Go.Proofs.YticokfpaoiekgaaGreatDoor
end
section
namespace Go.Proofs.YticokfpaoiekgaaGreatDoor
open Go.Lift Go.Lex Go.Shp
theorem take_more {α : Type} (H : List α) {a b : Nat} (h : a ≤ b) : (H.take b).take (H.take a).length = H.take a := by
 rw [List.take_take, List.length_take]
 have : min (min a H.length) b = min a H.length := by omega
 rw [this]
 rcases Nat.le_total a H.length with h | h
 ·rw [Nat.min_eq_left h]
 ·rw [Nat.min_eq_right h, List.take_length, List.take_of_length_le h]
theorem src_take {w : World} {l : Sl} {sz k : Nat} {xs : List Value} (h : SrcC w l sz xs) (hk : k ≤ l.n) (hc : l.n ≤ l.c) : SrcC w ⟨if l.c = 0 then l.a else l.a.map (·.add (0 * sz)), k, l.c⟩ sz (xs.take (k * sz)) := by
 obtain ⟨h1, h2, h3⟩ := h
 have hl : k * sz ≤ l.n * sz := Nat.mul_le_mul_right _ hk
 refine ⟨by rw [List.length_take]; show min (k * sz) xs.length = k * sz; omega, fun ha => ?_, fun ad ha j u hj => ?_⟩
 ·have ha' : l.a = none := by
   change (if l.c = 0 then l.a else l.a.map (·.add (0 * sz))) = none at ha
   by_cases h0 : l.c = 0
   ·rwa [if_pos h0] at ha
   ·rw [if_neg h0] at ha
    cases hq : l.a with
    | none => rfl
    | some x => rw [hq] at ha; cases ha
  obtain ⟨p1, p2⟩ := h2 ha'
  exact ⟨by show k = 0; omega, p2⟩
 ·have ha' : l.a = some ad := by
   change (if l.c = 0 then l.a else l.a.map (·.add (0 * sz))) = some ad at ha
   by_cases h0 : l.c = 0
   ·rwa [if_pos h0] at ha
   ·rw [if_neg h0] at ha
    cases hq : l.a with
    | none => rw [hq] at ha; cases ha
    | some x =>
     rw [hq, Option.map_some, Nat.zero_mul, Addr.add_zero'] at ha
     exact ha
  rw [List.getElem?_take] at hj
  split at hj
  ·exact h3 ad ha' j u hj
  ·cases hj
theorem hvs_take (V : List HV3) (n : Nat) : hvs (V.take n) = (hvs V).take n := by rw [hvs, hvs, List.map_take]
theorem hvs_len (V : List HV3) : (hvs V).length = V.length := by rw [hvs, List.length_map]
section
variable {w : World} {s : Sl} {D : List Dep} {k2 : Int} {o2 n2 : ByteArray} {ns2 ps2 : Sl} {t : Shape}
theorem two_at {m : Nat} {T : TypeId} {a b : Int} (C : Blk w m T [.int .i64 a, .int .i64 b]) {R : Ending → World → Prop} {K : Addr → Int → G} :
  (K ⟨m, 0, none⟩ a R w → idxG (some ⟨m, 0, none⟩) 2 (0 : Int) 1 (fun (x : Addr) => ldG (.int .i64) x (fun (n : Int) => K x n)) R w) ∧
  (K ⟨m, 1, none⟩ b R w → idxG (some ⟨m, 0, none⟩) 2 (1 : Int) 1 (fun (x : Addr) => ldG (.int .i64) x (fun (n : Int) => K x n)) R w) :=
 ⟨fun h => idxB_ok (n := 2) (i := 0) (by omega) (C.ld (c := .int .i64) (x := a) (o := 0) rfl h), fun h => idxB_ok (n := 2) (i := 1) (by omega) (C.ld (c := .int .i64) (x := b) (o := 1) rfl h)⟩
theorem more_ok {H : List Hit} {a b : Nat} (hab : a ≤ b) (hL : H.length ≤ 1000000) {la lb : Sl} {VA VB : List HV3} (hA : hvs VA = H.take a) (hB : hvs VB = H.take b) (na : la.n = VA.length ∧ la.n ≤ la.c) (nb : lb.n = VB.length ∧ lb.n ≤ lb.c)
  (sA : SrcC w la 3 (VA.flatMap hvCells)) (sB : SrcC w lb 3 (VB.flatMap hvCells)) {k1 k2 : G} {R : Ending → World → Prop} (hk : ∀ w', Fr noB w w' → k1 R w') :
  iteG (decide (((lb.n : Nat) : Int) ≥ ((la.n : Nat) : Int))) (assumeG (decide (((lb.c : Nat) : Int) ≤ ((lb.c : Nat) : Int))) (resliceG lb.a lb.c (0 : Int) ((la.n : Nat) : Int) ((lb.c : Nat) : Int) 3 (fun (p : Option Addr) (m n : Nat) => callG Tryz.prog 13 #[.slice p m n, .slice la.a la.n la.c] [.one .bool] (fun (b : Bool) => iteG b k1 k2)))) k2 R w := by
 have e1 := hvs_len VA
 have e2 := hvs_len VB
 rw [hA, List.length_take] at e1
 rw [hB, List.length_take] at e2
 have hle : la.n ≤ lb.n := by omega
 refine ite_yes (decide_eq_true (by omega)) (assume_ok (decide_eq_true (Int.le_refl _)) (reslice_lo (l := lb) (by omega) ?_))
 have s1 := src_take sB (k := la.n) hle nb.2
 rw [← flat_take hvCells 3 (fun _ => rfl)] at s1
 have hsame := sameHits_ok (V0 := VB.take la.n) s1 (by show la.n = _; rw [List.length_take]; omega) sA na.1 (by rw [List.length_take]; omega)
 rw [show decide (hvs (VB.take la.n) = hvs VA) = true from decide_eq_true (by rw [hvs_take, hB, na.1, ← hvs_len VA, hA]; exact take_more H hab)] at hsame
 exact callB_ok hsame fun w' F => ite_yes rfl (hk w' F)
set_option maxHeartbeats 4000000 in
theorem FinderMost_ok (hg : Glob w) (ht : ShV w k2 o2 n2 ns2 ps2 t) (a b : Int) (hD : DpR w s D) : AnsB 7 #[shArg k2 o2 n2 ns2 ps2, .agg #[.int .i64 a, .int .i64 b], .slice s.a s.n s.c] w true := by
 apply c7
 unfold t7 ivZ tvZ svZ shZ kfZ ldIZ ldSZ ld5mZ nwZ nw5Z caBZ caLZ jnBZ
 refine new_ok fun w1 m8 hm8 hs1 B1 F1 => new_ok fun w2 m9 hm9 hs2 C2 F2 => ?_
 change Blk w1 m8 _ (shCells k2 o2 n2 ns2 ps2) at B1
 change Blk w2 m9 _ [.int .i64 a, .int .i64 b] at C2
 have B2 := B1.fr F2 (fun h => h)
 have G2 := F1.tr F2
 have fB : ∀ w', Fr noB w2 w' → Held w' (⟨m8, 0, none⟩, [.int .i64 k2, .string o2, .string n2, .slice ns2.a ns2.n ns2.c, .slice ps2.a ps2.n ps2.c]) := fun w' F => (B2.fr F (fun h => h)).heldV
 have fN : ∀ w', Fr noB w2 w' → Held w' (⟨m8, 2, none⟩, [.string n2]) := fun w' F => (B2.fr F (fun h => h)).held1 (o := 2) rfl
 have fC : ∀ w', Fr noB w2 w' → Held w' (⟨m9, 1, none⟩, [.int .i64 b]) := fun w' F => (C2.fr F (fun h => h)).held1 (o := 1) rfl
 refine join1_ok (c := .bool) (fun (x : Bool) w' => Fr noB w2 w' ∧ (x = false → Few D ∧ 0 ≤ a ∧ a ≤ b)) (fun kj hkj => ?_) fun x w3 ⟨F3, hx⟩ => ?_
 ·refine call_ok (smallD_ok (hD.fr G2)) ?_
  rintro e w3 ⟨q, rfl, F3, hq⟩
  have C3 := C2.fr F3 (fun h => h)
  refine ⟨((q, ()), ()), rfl, ite_ok (fun h => hkj _ _ ⟨F3, fun h => by cases h⟩) fun h => (two_at C3).1 (ite_ok (fun h0 => hkj _ _ ⟨F3, fun h => by cases h⟩) fun h0 => (two_at C3).2 ((two_at C3).1 (hkj _ _ ⟨F3, fun h1 => ⟨hq (by simpa using h), ?_, ?_⟩⟩)))⟩
  ·have h0 : ¬ a < 0 := of_decide_eq_false h0
   omega
  ·have h1 : ¬ b < a := of_decide_eq_false h1
   omega
 have G3 := G2.tr F3
 refine ite_ok (fun _ => callB_ok (awake_ok (hg.fr G3)) fun w4 F4 => ⟨rfl, G3.tr F4⟩) fun hx0 => drew_ok fun w4 F4 z4 => ?_
 obtain ⟨hfew, ha0, hab⟩ := hx hx0
 have hN : itemsN D ≤ 1000000 := by have := hfew.1; omega
 have hlen : ∀ q, (sortH (hitsOf q D)).length ≤ 1000000 := fun q => by rw [(sortH_perm _).length_eq]; have := hitsOf_len q D; omega
 have H4 := F3.tr F4
 have G4 := G2.tr H4
 have B4 := B2.fr H4 (fun h => h)
 have C4 := C2.fr H4 (fun h => h)
 refine B4.ldV ((two_at C4).1 (B4.ldV ((two_at C4).2 (callHits_ok (ByType_ok (hD.fr G4) hN (ht.fr G4) a) fun la VA w5 hVA hna hSA F5 => ?_))))
 have H5 := H4.tr F5
 have G5 := G4.tr F5
 refine Stay.go (w := w2) (by repeat (first | exact Stay.nil | refine Stay.cons (by assumption) ?_)) H5 ?_
 refine callHits_ok (ByType_ok (hD.fr G5) hN (ht.fr G5) b) fun lb VB w6 hVB hnb hSB F6 => drew_ok fun w7 F7 z7 => ?_
 have H7 := (H5.tr F6).tr F7
 have G7 := G2.tr H7
 have B7 := B2.fr H7 (fun h => h)
 have C7 := C2.fr H7 (fun h => h)
 refine B7.ld (c := .str) (x := n2) (o := 2) rfl ((two_at C7).1 (B7.ld (c := .str) (x := n2) (o := 2) rfl ((two_at C7).2 ?_)))
 refine callHits_ok (ByName_ok (hg.fr G7) (hD.fr G7) hN hfew.2 n2 a) fun lc VC w8 hVC hnc hSC F8 => ?_
 have H8 := H7.tr F8
 have G8 := G7.tr F8
 refine Stay.go (w := w2) (by repeat (first | exact Stay.nil | refine Stay.cons (by assumption) ?_)) H8 ?_
 refine callHits_ok (ByName_ok (hg.fr G8) (hD.fr G8) hN hfew.2 n2 b) fun ld VD w9 hVD hnd hSD F9 => ?_
 have G9 := G8.tr F9
 refine join1_ok (c := .bool) (fun (b : Bool) w' => b = true ∧ Fr noB w w') (fun kj hkj => ?_) fun b w' ⟨hb, F⟩ => ⟨by rw [hb], F⟩
 refine more_ok (by omega) (hlen _) hVA hVB hna hnb (hSA.fr (((F6.tr F7).tr F8).tr F9)) (hSB.fr ((F7.tr F8).tr F9)) fun w10 F10 => ?_
 refine more_ok (by omega) (hlen _) hVC hVD hnc hnd (hSC.fr (F9.tr F10)) (hSD.fr F10) fun w11 F11 => ?_
 exact callB_ok (awake_ok (hg.fr ((G9.tr F10).tr F11))) fun w12 F12 => hkj _ _ ⟨rfl, ((G9.tr F10).tr F11).tr F12⟩
end
end Go.Proofs.YticokfpaoiekgaaGreatDoor
end
section
namespace Go.Shp
open Go.Lex
def cntR (H : List Hit) (r : Int) : Nat := H.countP fun h => h.rank == r
theorem cntR_append (H K : List Hit) (r : Int) : cntR (H ++ K) r = cntR H r + cntR K r := List.countP_append ..
theorem cntR_le (H : List Hit) (r : Int) : cntR H r ≤ H.length := List.countP_le_length
theorem hit_mem {q : Thing → Int} {D : List Dep} {h : Hit} (hm : h ∈ hitsOf q D) : ∃ (i k : Nat) (d : Dep) (it : Thing), D[i]? = some d ∧ d.items[k]? = some it ∧ h.of = d.name ∧ h.name = it.name ∧ h.rank = q it ∧ 1 ≤ q it := by
 unfold hitsOf at hm
 obtain ⟨d, hd, h1⟩ := List.mem_flatMap.1 hm
 unfold dHits at h1
 obtain ⟨it, hit, h2⟩ := List.mem_filterMap.1 h1
 obtain ⟨i, hi⟩ := List.mem_iff_getElem?.1 hd
 obtain ⟨k, hk⟩ := List.mem_iff_getElem?.1 hit
 unfold itHit at h2
 by_cases h3 : q it < 1
 ·rw [if_pos h3] at h2
  cases h2
 ·rw [if_neg h3] at h2
  cases h2
  exact ⟨i, k, d, it, hi, hk, rfl, rfl, rfl, by omega⟩
theorem rank_le3 (s t : Shape) : rank s t ≤ 3 := by
 unfold rank
 split
 ·omega
 ·split
  ·omega
  ·split <;> omega
theorem type_hit {t : Shape} {D : List Dep} {h : Hit} (hm : h ∈ hitsOf (typeQ t) D) : (1 ≤ h.rank ∧ h.rank ≤ 3) ∧ ∃ (i k : Nat) (d : Dep) (it : Thing), D[i]? = some d ∧ d.items[k]? = some it ∧ h.of = d.name ∧ h.name = it.name ∧ it.kind = 3 ∧ ((rank it.shape t : Nat) : Int) = h.rank := by
 obtain ⟨i, k, d, it, h1, h2, h3, h4, h5, h6⟩ := hit_mem hm
 have hr := rank_le3 it.shape t
 unfold typeQ at h5 h6
 by_cases hk : it.kind = 3
 ·rw [if_pos hk] at h5 h6
  exact ⟨by omega, i, k, d, it, h1, h2, h3, h4, hk, h5.symm⟩
 ·rw [if_neg hk] at h6
  omega
theorem down_rank {l : List Hit} (h : Down l) {i j : Nat} {x y : Hit} (hij : i < j) (hx : l[i]? = some x) (hy : l[j]? = some y) : y.rank ≤ x.rank := by
 obtain ⟨hi, rfl⟩ := List.getElem?_eq_some_iff.1 hx
 obtain ⟨hj, rfl⟩ := List.getElem?_eq_some_iff.1 hy
 have := List.pairwise_iff_getElem.1 h i j hi hj hij
 unfold behind at this
 by_cases hr : l[i].rank ≠ l[j].rank
 ·rw [if_pos hr] at this
  have := of_decide_eq_false this
  omega
 ·omega
theorem cnt_step (t : Shape) (d : B) (H : List Hit) (it : Thing) {r : Int} (hr : 1 ≤ r) : cntR (H ++ (itHit (typeQ t) d it).toList) r = cntR H r + (if it.kind = 3 ∧ ((rank it.shape t : Nat) : Int) = r then 1 else 0) := by
 rw [cntR_append]
 congr 1
 unfold itHit typeQ
 by_cases hk : it.kind = 3
 ·rw [if_pos hk]
  by_cases h1 : ((rank it.shape t : Nat) : Int) < 1
  ·rw [if_pos h1, if_neg (fun e => by have := e.2; omega)]
   rfl
  ·rw [if_neg h1]
   by_cases h2 : ((rank it.shape t : Nat) : Int) = r
   ·rw [if_pos ⟨hk, h2⟩]
    simp [cntR, h2]
   ·rw [if_neg (fun e => h2 e.2)]
    simp [cntR, h2]
 ·rw [if_neg hk, if_pos (by omega : (0 : Int) < 1), if_neg (fun e => hk e.1)]
  rfl
end Go.Shp
namespace Go.Lift
def Cnts (w : World) (m : Nat) (C : Nat → Int) : Prop := ∃ cs : List Int, Blk w m 3 (cs.map fun n => .int .i64 n) ∧ cs.length = 4 ∧ ∀ r, 1 ≤ r → r ≤ 3 → cs[r]? = some (C r)
theorem Cnts.fr {w w' : World} {m : Nat} {C : Nat → Int} (h : Cnts w m C) {S : Nat → Prop} (F : Fr S w w') (hm : ¬ S m) : Cnts w' m C := by
 obtain ⟨cs, B, h1, h2⟩ := h
 exact ⟨cs, B.fr F hm, h1, h2⟩
theorem Cnts.cell {w : World} {m : Nat} {C : Nat → Int} (h : Cnts w m C) {r : Nat} (hr : r ≤ 3) : ∃ c : Int, w.cell? ⟨m, r, none⟩ = some (.int .i64 c) ∧ (1 ≤ r → c = C r) := by
 obtain ⟨cs, B, h1, h2⟩ := h
 obtain ⟨c, hc⟩ : ∃ c, cs[r]? = some c := ⟨_, List.getElem?_eq_getElem (by omega)⟩
 refine ⟨c, B.cell (by rw [List.getElem?_map, hc]; rfl), fun h => ?_⟩
 have := h2 r h hr
 rw [hc] at this
 exact Option.some.inj this
theorem bump_ok {w : World} {m : Nat} {C : Nat → Int} (h : Cnts w m C) {r : Nat} (hr : r ≤ 3) (f : Int → Int) {k : G} {R : Ending → World → Prop} (hk : ∀ w', Cnts w' m (fun x => if x = r then f (C x) else C x) → Fr (oneB m) w w' → k R w') :
  idxG (some ⟨m, 0, none⟩) 4 (r : Int) 1 (fun (a : Addr) => ldG (.int .i64) a (fun (n : Int) => idxG (some ⟨m, 0, none⟩) 4 (r : Int) 1 (fun (b : Addr) => stG b (.int .i64 (f n)) k))) R w := by
 obtain ⟨cs, B, h1, h2⟩ := h
 obtain ⟨c, hc⟩ : ∃ c, cs[r]? = some c := ⟨_, List.getElem?_eq_getElem (by omega)⟩
 have hv : (cs.map fun n => Value.int .i64 n)[r]? = some (.int .i64 c) := by rw [List.getElem?_map, hc]; rfl
 refine idxB_ok (n := 4) (i := r) (by omega) ?_
 rw [Nat.mul_one, Nat.zero_add]
 refine B.ld (c := .int .i64) (x := c) hv (idxB_ok (n := 4) (i := r) (by omega) ?_)
 rw [Nat.mul_one, Nat.zero_add]
 refine B.st (v := .int .i64 (f c)) rfl (by rw [List.length_map]; omega) fun w' B' F => hk w' ⟨cs.set r (f c), ?_, by rw [List.length_set]; exact h1, fun x hx1 hx3 => ?_⟩ F
 ·rw [List.map_set]
  exact B'
 ·by_cases hx : x = r
  ·subst hx
   show _ = some (if x = x then f (C x) else C x)
   rw [List.getElem?_set_self (by omega), if_pos rfl]
   have := h2 x hx1 hx3
   rw [hc] at this
   rw [Option.some.inj this]
  ·show _ = some (if x = r then f (C x) else C x)
   rw [List.getElem?_set_ne (fun e => hx e.symm), if_neg hx]
   exact h2 x hx1 hx3
theorem cnt_ld {w : World} {m : Nat} {C : Nat → Int} (h : Cnts w m C) {r : Nat} (h1 : 1 ≤ r) (hr : r ≤ 3) {K : Int → G} {R : Ending → World → Prop} (hk : K (C r) R w) : idxG (some ⟨m, 0, none⟩) 4 (r : Int) 1 (fun (a : Addr) => ldG (.int .i64) a K) R w := by
 obtain ⟨c, hc, he⟩ := h.cell hr
 refine idxB_ok (n := 4) (i := r) (by omega) ?_
 rw [Nat.mul_one, Nat.zero_add]
 exact ld_ok (c := .int .i64) (x := c) hc (by rw [he h1]; exact hk)
end Go.Lift
namespace Go.Proofs.YticokfpaoiekgaaGreatDoor
open Go.Lift Go.Lex Go.Shp
section
variable {w : World} {s : Sl} {D : List Dep} {k2 : Int} {o2 n2 : ByteArray} {ns2 ps2 : Sl} {t : Shape}
theorem srcRank_ld {l : Sl} {V : List HV3} {i : Nat} {v : HV3} {K : Addr → Int → G} {R : Ending → World → Prop} (h : SrcC w l 3 (V.flatMap hvCells)) (hn : l.n = V.length) (hv : V[i]? = some v) (hk : ∀ a : Addr, (∀ w', Fr noB w w' → Held w' (a.add 2, [.int .i64 v.2.2])) → K a v.2.2 R w) :
  idxG l.a l.n (i : Int) 3 (fun (a : Addr) => ldG (.int .i64) (a.add 2) (fun (r : Int) => K a r)) R w := by
 have hi := (List.getElem?_eq_some_iff.1 hv).1
 cases ha : l.a with
 | none => have := (h.2.1 ha).1; omega
 | some ad =>
  have at' : ∀ w', Fr noB w w' → w'.cell? ((ad.add (i * 3)).add 2) = some (.int .i64 v.2.2) := fun w' F => by
   have := (h.fr F).2.2 ad ha (i * 3 + 2) (.int .i64 v.2.2) (by rw [flat_at hvCells 3 (fun _ _ => rfl) hv 2 (by omega)]; rfl)
   rw [Addr.add_add]
   exact this
  refine idx_ok (a := ad) (n := l.n) (i := (i : Int)) (by omega) (by omega) ?_
  rw [Int.toNat_natCast]
  exact ld_ok (c := .int .i64) (x := v.2.2) (at' w (Fr.refl _ _)) (hk _ fun w' F => held_one (at' w' F))
set_option maxHeartbeats 2000000 in
theorem stands_ok (hD : DpR w s D) (ht : ShV w k2 o2 n2 ns2 ps2 t) {ho hm : ByteArray} {r : Int} {i0 k0 : Nat} {d0 : Dep} {it0 : Thing} (hd0 : D[i0]? = some d0) (hi0 : d0.items[k0]? = some it0) (e1 : bl ho = d0.name) (e2 : bl hm = it0.name) (e3 : it0.kind = 3) (e4 : ((rank it0.shape t : Nat) : Int) = r) :
  AnsB 18 #[.agg #[.string ho, .string hm, .int .i64 r], shArg k2 o2 n2 ns2 ps2, .slice s.a s.n s.c] w true := by
 have hsn := hD.1
 have hsl := hD.2.1
 have hi0l := (List.getElem?_eq_some_iff.1 hd0).1
 have hk0l := (List.getElem?_eq_some_iff.1 hi0).1
 apply c18
 unfold t18 wrZ ivZ tvZ shZ ldIZ ldSZ ldLZ ld5mZ lf5mZ ld7xZ st7Z nwZ nw5Z nz7Z caIZ jn0Z jnBZ lpIZ ixZ
 refine new_ok fun w1 m9 hm9 hs1 A1 F1 => new_ok fun w2 m10 hm10 hs2 B2 F2 => ?_
 change Blk w1 m9 _ [.string ho, .string hm, .int .i64 r] at A1
 change Blk w2 m10 _ (shCells k2 o2 n2 ns2 ps2) at B2
 have A2 := A1.fr F2 (fun h => h)
 have G2 := F1.tr F2
 refine join0_ok (fun w' => False) (fun kj hkj => ?_) fun w' h => h.elim
 refine countL_ok D.length (by omega) (fun i w' => Fr noB w2 w' ∧ i ≤ i0) (fun rec i w3 hi hI hrec => ?_) ⟨Fr.refl _ _, Nat.zero_le _⟩
 obtain ⟨F3, hle⟩ := hI
 have G3 := G2.tr F3
 refine ite_ok (fun hlt => ?_) fun hge => ?_
 rotate_left
 ·have hge : ¬ (i : Int) < ((s.n : Nat) : Int) := of_decide_eq_false hge
  omega
 have hlt : (i : Int) < ((s.n : Nat) : Int) := of_decide_eq_true hlt
 obtain ⟨d, hd⟩ : ∃ d, D[i]? = some d := ⟨_, List.getElem?_eq_getElem (by omega)⟩
 have hdl : d.items.length < 4611686018427387904 := by
  obtain ⟨_, _, _, _, _, _, _, h⟩ := hD.2.2 i d hd
  exact h.2.2.2.1
 refine join0_ok (fun w' => Fr noB w2 w' ∧ i ≠ i0) (fun k14 hk14 => ?_) fun w' h => hrec (by omega) w' ⟨h.1, by have := h.2; omega⟩
 refine join0_ok (fun w' => Fr noB w2 w' ∧ i ≠ i0) (fun k15 hk15 => ?_) fun w' h => hk14 w' h
 refine countL_ok d.items.length (by omega) (fun k w' => Fr noB w2 w' ∧ (i = i0 → k ≤ k0)) (fun rec2 k w4 hk hI2 hrec2 => ?_) ⟨F3, fun _ => Nat.zero_le _⟩
 obtain ⟨F4, hle2⟩ := hI2
 have G4 := G2.tr F4
 refine dep_its (hD.fr G4) hd fun its hin hil hL => ?_
 refine ite_ok (fun hlt2 => ?_) fun hge2 => hk15 _ ⟨F4, fun h => ?_⟩
 rotate_left
 ·have hge2 : ¬ (k : Int) < ((its.n : Nat) : Int) := of_decide_eq_false hge2
  subst h
  rw [hd0] at hd
  cases hd
  have := hle2 rfl
  omega
 have hlt2 : (k : Int) < ((its.n : Nat) : Int) := of_decide_eq_true hlt2
 obtain ⟨it, hit⟩ : ∃ it, d.items[k]? = some it := ⟨_, List.getElem?_eq_getElem (by omega)⟩
 refine join0_ok (fun w' => Fr noB w2 w' ∧ ¬ (i = i0 ∧ k = k0)) (fun k20 hk20 => ?_) fun w' h => hrec2 (by omega) w' ⟨h.1, fun e => by have := hle2 e; have := h.2; omega⟩
 refine dep_its (hD.fr G4) hd fun its2 hin2 hil2 hL2 => item_ld hL2 hit hin2 fun kd nm k' o n ns ps hiv => new_ok fun w5 m31 hm31 hs5 C5 F5 => fill7_ok C5 rfl rfl rfl rfl rfl rfl rfl rfl fun w6 C6 F6 => ?_
 have K6 : Fr noB w4 w6 := F5.fill (by omega) F6
 change Blk w6 m31 _ (itCells kd nm k' o n ns ps) at C6
 have H6 := F4.tr K6
 have same : i = i0 ∧ k = k0 → d = d0 ∧ it = it0 := fun ⟨h1, h2⟩ => by
  subst h1 h2
  rw [hd0] at hd
  cases hd
  rw [hi0] at hit
  cases hit
  exact ⟨rfl, rfl⟩
 refine join1_ok (c := .bool) (fun (b : Bool) w' => Fr noB w2 w' ∧ (b = false → ¬ (i = i0 ∧ k = k0))) (fun k32 hk32 => drew_ok fun w7 F7 z7 => ?_) fun b w' ⟨F, hb⟩ => ite_ok (fun _ => ⟨rfl, G2.tr F⟩) fun h => hk20 _ ⟨F, hb h⟩
 have H7 := H6.tr F7
 have A7 := A2.fr H7 (fun h => h)
 have B7 := B2.fr H7 (fun h => h)
 have C7 := C6.fr F7 (fun h => h)
 refine dep_nmA (hD.fr (G2.tr H7)) hd fun a nmd hnmd hnmz hkeep => A7.ld (c := .str) (x := ho) (o := 0) rfl ?_
 rw [eq_bl]
 refine ite_ok (fun q1 => ?_) fun q1 => hk32 _ _ ⟨H7, fun _ h => ?_⟩
 rotate_left
 ·obtain ⟨rfl, rfl⟩ := same h
  rw [hnmd, e1] at q1
  simp at q1
 refine C7.ld (c := .str) (x := nm) (o := 1) rfl (A7.ld (c := .str) (x := hm) (o := 1) rfl ?_)
 rw [eq_bl]
 refine ite_ok (fun q2 => ?_) fun q2 => hk32 _ _ ⟨H7, fun _ h => ?_⟩
 rotate_left
 ·obtain ⟨rfl, rfl⟩ := same h
  rw [hiv.2.1, e2] at q2
  simp at q2
 refine C7.ld (c := .int .i64) (x := kd) (o := 0) rfl (ite_ok (fun q3 => ?_) fun q3 => hk32 _ _ ⟨H7, fun _ h => ?_⟩)
 rotate_left
 ·obtain ⟨rfl, rfl⟩ := same h
  rw [hiv.1, e3] at q3
  simp at q3
 refine C7.ldI (B7.ldV (A7.ld (c := .int .i64) (x := r) (o := 2) rfl (callI_ok (Rank_ok (hiv.2.2.2.fr (K6.tr F7)) (ht.fr (G2.tr H7))) fun w8 F8 => ?_)))
 have A8 := A7.fr F8 (fun h => h)
 have C8 := C7.fr F8 (fun h => h)
 refine keep_cons (A8.held1 (o := 2) rfl) (keep_cons (C8.held1 (o := 0) rfl) (keep_cons (A8.held1 (o := 1) rfl) (keep_cons (C8.held1 (o := 1) rfl) (keep_cons (A8.held1 (o := 0) rfl) (keep_cons (hkeep w8 F8) (keep_nil ?_))))))
 refine hk32 _ _ ⟨H7.tr F8, fun hb h => ?_⟩
 obtain ⟨rfl, rfl⟩ := same h
 rw [e4] at hb
 simp at hb
end
end Go.Proofs.YticokfpaoiekgaaGreatDoor
end
