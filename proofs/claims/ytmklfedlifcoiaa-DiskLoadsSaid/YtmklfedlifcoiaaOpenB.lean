/- A law's arguments, opened: acts. -/
import Derived.Test.YtmklfedlifcoiaaOpen
import Derived.Test.YtmklfedlifcoiaaLawB
import Derived.SizedLaws
namespace Go.Proofs.Ytmklfedlifcoiaa
open Go.Lift Go.ChangeShapes Go.WideShapes Go.ChangeAt Go.RowKit Go.Deep Go.Joins

theorem act_fields : ∃ f0 f1 f2 f3 f4 : Field, Try.prog.underlying 53 = some (.struct #[f0, f1, f2, f3, f4]) ∧ (f0.offset = 0 ∧ f0.type = 3) ∧ (f1.offset = 1 ∧ f1.type = 3) ∧ (f2.offset = 2 ∧ f2.type = 9) ∧ (f3.offset = 3 ∧ f3.type = 4) ∧ (f4.offset = 4 ∧ f4.type = 25) := by
  have h : (Try.prog.underlying 53).map (fun d => match d with | .struct fs => fs.toList.map (fun f => (f.offset, f.type)) | _ => []) = some [(0, 3), (1, 3), (2, 9), (3, 4), (4, 25)] := by kernel_rfl
  cases hd : Try.prog.underlying 53 with
  | none => rw [hd] at h; cases h
  | some d =>
    rw [hd] at h
    cases d with
    | struct fs =>
      obtain ⟨l⟩ := fs
      match l with
      | [f0, f1, f2, f3, f4] => simp at h; exact ⟨f0, f1, f2, f3, f4, rfl, h.1, h.2.1, h.2.2.1, h.2.2.2.1, h.2.2.2.2⟩
      | [] => simp at h
      | [_] => simp at h
      | [_, _] => simp at h
      | [_, _, _] => simp at h
      | [_, _, _, _] => simp at h
      | _ :: _ :: _ :: _ :: _ :: _ :: _ => simp at h
    | _ => simp at h
theorem fall_offsets : ∃ f0 f1 f2 : Field, Try.prog.underlying 25 = some (.struct #[f0, f1, f2]) ∧ (f0.offset = 0 ∧ f0.type = 23) ∧ (f1.offset = 1 ∧ f1.type = 3) ∧ (f2.offset = 2 ∧ f2.type = 3) := by
  have h : (Try.prog.underlying 25).map (fun d => match d with | .struct fs => fs.toList.map (fun f => (f.offset, f.type)) | _ => []) = some [(0, 23), (1, 3), (2, 3)] := by kernel_rfl
  cases hd : Try.prog.underlying 25 with
  | none => rw [hd] at h; cases h
  | some d =>
    rw [hd] at h
    cases d with
    | struct fs =>
      obtain ⟨l⟩ := fs
      match l with
      | [f0, f1, f2] => simp at h; exact ⟨f0, f1, f2, rfl, h.1, h.2.1, h.2.2⟩
      | [] => simp at h
      | [_] => simp at h
      | [_, _] => simp at h
      | _ :: _ :: _ :: _ :: _ => simp at h
    | _ => simp at h
theorem u46 : Try.prog.underlying 46 = some (.slice 53) := by kernel_rfl
theorem c53 : Try.prog.cellsOf 53 = 7 := by kernel_rfl
theorem c23' : Try.prog.cellsOf 23 = 1 := by kernel_rfl
theorem b4' : Try.prog.bytesOf 4 = 1 := by kernel_rfl

section
variable {H : Type} {enc : TypeId × Value → H} {w : World}
/-- nothing that it holds is too long for a machine -/
def Light (t : TypeId) (d : DataW H) : Prop := ∀ n ∈ d.weights Try.prog t, n ≤ 140737488351232
theorem light_of {ts : List TypeId} {ds : List (DataW H)} (h : (DataW.weightsEach Try.prog ts ds).all (· ≤ reachBytes) = true) {j : Nat} {t : TypeId} {d : DataW H} (ht : ts[j]? = some t) (hd : ds[j]? = some d) : Light t d := fun n hn =>
  of_decide_eq_true (List.all_eq_true.1 h n (DataW.weights_mem_each ht hd n hn))
theorem weightsAll_mem {e : TypeId} : ∀ {l : List (DataW H)} {d : DataW H}, d ∈ l → ∀ n ∈ d.weights Try.prog e, n ∈ DataW.weightsAll Try.prog e l
  | x :: l, d, hd, n, hn => by
    simp only [DataW.weightsAll, List.mem_append]
    rcases List.mem_cons.1 hd with rfl | hd
    · exact .inl hn
    · exact .inr (weightsAll_mem hd n hn)
theorem Light.elem {t e : TypeId} {el sp : List (DataW H)} (ht : Try.prog.underlying t = some (.slice e)) (h : Light t (.slice el sp)) {d : DataW H} (hd : d ∈ el) : Light e d := fun n hn =>
  h n (by simp only [DataW.weights, ht, List.mem_cons, List.mem_append]; exact .inr (.inl (weightsAll_mem hd n hn)))
theorem Light.part {t : TypeId} {fs : Array Field} {ds : List (DataW H)} (ht : Try.prog.underlying t = some (.struct fs)) (h : Light t (.agg ds)) {j : Nat} {f : Field} {d : DataW H} (hf : fs[j]? = some f) (hd : ds[j]? = some d) : Light f.type d := fun n hn =>
  h n (by
    simp only [DataW.weights, ht]
    exact DataW.weights_mem_each (j := j) (by simp [List.getElem?_map, hf]) hd n hn)

theorem fall_cells {n : Nat} {cs : List Value} {x : DataW H × List MemPlace} (h : DataW.trod enc Try.prog w 0 (fun _ => true) true n 25 cs = some x) (hl : Light 25 x.1) :
    ∃ (s : Sl) (keep : List Bool) (torn cut : Int), cs = [.slice s.a s.n s.c, .int .i64 torn, .int .i64 cut] ∧ RdB w s keep ∧ keep.length ≤ 140737488351232 := by
  obtain ⟨f0, f1, f2, hs, ⟨o0, t0⟩, ⟨o1, t1⟩, ⟨o2, t2⟩⟩ := fall_offsets
  obtain ⟨xs, k, hk, rfl, hcl, hxl, hf⟩ := DataW.trod_struct hs h
  rw [c25'] at hcl
  match xs, hxl, cs, hcl with
  | [y0, y1, y2], _, [v0, v1, v2], _ =>
    have g0 := hf 0 f0 rfl
    have g1 := hf 1 f1 rfl
    have g2 := hf 2 f2 rfl
    simp [o0, t0, c23'] at g0
    simp [o1, t1, c3'] at g1
    simp [o2, t2, c3'] at g2
    have hl0 : Light 23 y0.1 := by
      have := hl.part hs (j := 0) (f := f0) (d := y0.1) rfl rfl
      rwa [t0] at this
    obtain ⟨z1, e1, _, _⟩ := DataW.trod_int u3 g1
    obtain ⟨z2, e2, _, _⟩ := DataW.trod_int u3 g2
    simp only [List.cons.injEq, and_true] at e1 e2
    subst e1 e2
    rcases open_bools u23 u4 c4' g0 with ⟨hcs, rfl⟩ | ⟨a, len, cap, Bf, hcs, _, hlc, _, rfl, hx⟩
    · simp only [List.cons.injEq, and_true] at hcs
      subst hcs
      exact ⟨⟨none, 0, 0⟩, [], z1, z2, rfl, ⟨rfl, fun h => absurd rfl h⟩, by simp⟩
    · simp only [List.cons.injEq, and_true] at hcs
      subst hcs
      refine ⟨⟨some a, len, cap⟩, (List.range len).map Bf, z1, z2, rfl, ⟨by simp, fun _ => ⟨a, rfl, fun j u hj => ?_⟩⟩, ?_⟩
      · simp only [List.map_map, List.getElem?_map, Option.map_eq_some_iff] at hj
        obtain ⟨i, hi, rfl⟩ := hj
        obtain ⟨hlt, hi⟩ := List.getElem?_eq_some_iff.1 hi
        simp at hi hlt
        subst hi
        exact hx j (by omega)
      · have hw := hl0 (cap * 1) (by
          simp only [boolRow, DataW.weights, u23, b4', List.mem_cons]
          left
          simp
          omega)
        simp
        omega

theorem act_cells {n : Nat} {cs : List Value} {x : DataW H × List MemPlace} (h : DataW.trod enc Try.prog w 0 (fun _ => true) true n 53 cs = some x) (hl : Light 53 x.1) : ∃ a : AM, cs = a.cells ∧ a.ok w := by
  obtain ⟨f0, f1, f2, f3, f4, hs, ⟨o0, t0⟩, ⟨o1, t1⟩, ⟨o2, t2⟩, ⟨o3, t3⟩, ⟨o4, t4⟩⟩ := act_fields
  obtain ⟨xs, k, hk, rfl, hcl, hxl, hf⟩ := DataW.trod_struct hs h
  rw [c53] at hcl
  match xs, hxl, cs, hcl with
  | [y0, y1, y2, y3, y4], _, [v0, v1, v2, v3, v4, v5, v6], _ =>
    have g0 := hf 0 f0 rfl
    have g1 := hf 1 f1 rfl
    have g2 := hf 2 f2 rfl
    have g3 := hf 3 f3 rfl
    have g4 := hf 4 f4 rfl
    simp [o0, t0, c3'] at g0
    simp [o1, t1, c3'] at g1
    simp [o2, t2, c9'] at g2
    simp [o3, t3, c4'] at g3
    simp [o4, t4, c25'] at g4
    have hl4 : Light 25 y4.1 := by
      have := hl.part hs (j := 4) (f := f4) (d := y4.1) rfl rfl
      rwa [t4] at this
    obtain ⟨z0, e0, _, _⟩ := DataW.trod_int u3 g0
    obtain ⟨z1, e1, _, wf1⟩ := DataW.trod_int u3 g1
    obtain ⟨s, e2, _, _⟩ := DataW.trod_string u9 g2
    obtain ⟨b, e3, _⟩ := DataW.trod_bool u4 g3
    obtain ⟨ks, keep, torn, cut, e4, hr, hkl⟩ := fall_cells g4 hl4
    simp only [List.cons.injEq, and_true] at e0 e1 e2 e3 e4
    obtain ⟨rfl, rfl, rfl⟩ := e4
    subst e0 e1 e2 e3
    refine ⟨⟨z0, z1, s, b, ks, keep, torn, cut⟩, rfl, hr, hkl, ?_⟩
    have hx : -9223372036854775808 ≤ z1 ∧ z1 ≤ 9223372036854775807 := by simpa [Lit.wf, IntKind.min, IntKind.max, IntKind.signed, IntKind.bits] using wf1
    exact hx.2

theorem open_acts {v : Value} {d : DataW H} {p : List MemPlace} {r : Reach} {b0 : Nat} (hv : Value.okWide Try.prog w r b0 46 v) (h : DataW.Trod enc Try.prog w 0 (fun _ => true) true 46 v d p) (hl : Light 46 d) :
    ∃ (s : Sl) (l : List AM), v = .slice s.a s.n s.c ∧ RdA w s l := by
  obtain ⟨a0, len, cap, rfl⟩ := okWide_slice u46 hv
  obtain ⟨fuel, hf⟩ := h
  rcases open_slice u46 hf with ⟨hcs, _⟩ | ⟨a, len', cap', m, n, D, Pl, hcs, _, hlc, _, hm, hx0, hx⟩
  · simp [Value.cells] at hcs
    exact ⟨⟨none, 0, 0⟩, [], by simp [hcs], rfl, fun k x hk => by simp at hk⟩
  · simp [Value.cells] at hcs
    obtain ⟨rfl, rfl, rfl⟩ := hcs
    simp only [if_true] at hm
    simp only [Prod.mk.injEq] at hx0
    rw [hx0.1] at hl
    have each : ∀ i, i < len → ∃ x : AM, AM.ok w x ∧ Held w (a.add (i * 7), x.cells) := fun i hi => by
      obtain ⟨cs', h1, h2⟩ := hx i (by omega)
      have hli : Light 53 (D i) := hl.elem u46 (List.mem_map.2 ⟨i, List.mem_range.2 hi, rfl⟩)
      obtain ⟨x, rfl, hok⟩ := act_cells h2 hli
      rw [c53] at h1
      obtain ⟨_, hlen, hcell⟩ := World.cells?_some h1
      refine ⟨x, hok, fun j u hj => ?_⟩
      have hj7 : j < 7 := by have := (List.getElem?_eq_some_iff.1 hj).1; simpa [AM.cells] using this
      have := hcell j (by simpa using hj7)
      rw [this]
      exact hj
    have : ∀ k, k ≤ len → ∃ l : List AM, l.length = k ∧ ∀ i x, l[i]? = some x → AM.ok w x ∧ Held w (a.add (i * 7), x.cells) := by
      intro k
      induction k with
      | zero => intro _; exact ⟨[], rfl, fun i x h => by simp at h⟩
      | succ k ih =>
        intro hk
        obtain ⟨l, hl', hp⟩ := ih (by omega)
        obtain ⟨x, hx'⟩ := each k (by omega)
        refine ⟨l ++ [x], by simp [hl'], fun i y hy => ?_⟩
        by_cases hi : i < l.length
        · rw [List.getElem?_append_left hi] at hy; exact hp i y hy
        · have : i = l.length := by have := (List.getElem?_eq_some_iff.1 hy).1; simp at this; omega
          subst this
          simp at hy
          subst hy
          rw [hl']; exact hx'
    obtain ⟨l, hl', hp⟩ := this len (Nat.le_refl _)
    exact ⟨⟨some a, len, cap⟩, l, rfl, hl'.symm, fun k x hk => ⟨(hp k x hk).1, a, rfl, (hp k x hk).2⟩⟩

theorem open_act {v : Value} {d : DataW H} {p : List MemPlace} {r : Reach} {b0 : Nat} (hv : Value.okWide Try.prog w r b0 53 v) (h : DataW.Trod enc Try.prog w 0 (fun _ => true) true 53 v d p) (hl : Light 53 d) :
    ∃ a : AM, v = .agg a.cells.toArray ∧ a.ok w := by
  obtain ⟨f0, f1, f2, f3, f4, hs, _⟩ := act_fields
  unfold Value.okWide at hv
  rw [hs] at hv
  obtain ⟨cs, rfl, _⟩ := hv
  obtain ⟨fuel, hf⟩ := h
  obtain ⟨a, ha, hok⟩ := act_cells hf hl
  refine ⟨a, ?_, hok⟩
  have : cs.toList = a.cells := ha
  rw [← this]
end
end Go.Proofs.Ytmklfedlifcoiaa
