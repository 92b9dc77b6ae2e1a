/- A law's arguments, opened. -/
import Derived.Test.YtmklfedlifcoiaaWrap
import Derived.Test.YtmklfedlifcoiaaLawA
namespace Go.Proofs.Ytmklfedlifcoiaa
open Go.Lift Go.ChangeShapes Go.WideShapes Go.ChangeAt Go.RowKit Go.Deep Go.Joins

theorem put_fields : ∃ f0 f1 : Field, Try.prog.underlying 34 = some (.struct #[f0, f1]) ∧ f0.offset = 0 ∧ f1.offset = 1 ∧ f0.type = 3 ∧ f1.type = 9 := by
  have h : (Try.prog.underlying 34).map (fun d => match d with | .struct fs => fs.toList.map (fun f => (f.offset, f.type)) | _ => []) = some [(0, 3), (1, 9)] := by kernel_rfl
  cases hd : Try.prog.underlying 34 with
  | none => rw [hd] at h; cases h
  | some d =>
    rw [hd] at h
    cases d with
    | struct fs =>
      obtain ⟨l⟩ := fs
      match l with
      | [f0, f1] => simp at h; exact ⟨f0, f1, rfl, h.1.1, h.2.1, h.1.2, h.2.2⟩
      | [] => simp at h
      | [_] => simp at h
      | _ :: _ :: _ :: _ => simp at h
    | _ => simp at h
theorem u22 : Try.prog.underlying 22 = some (.slice 34) := by kernel_rfl
theorem u3 : Try.prog.underlying 3 = some (.int .i64) := by kernel_rfl
theorem c34' : Try.prog.cellsOf 34 = 2 := by kernel_rfl
theorem c3' : Try.prog.cellsOf 3 = 1 := by kernel_rfl
theorem c9' : Try.prog.cellsOf 9 = 1 := by kernel_rfl

section
variable {H : Type} {enc : TypeId × Value → H} {w : World}
theorem open_puts {v : Value} {d : DataW H} {p : List MemPlace} {r : Reach} {b0 : Nat} (hv : Value.okWide Try.prog w r b0 22 v) (h : DataW.Trod enc Try.prog w 0 (fun _ => true) true 22 v d p) :
    ∃ (s : Sl) (l : List (Int × ByteArray)), v = .slice s.a s.n s.c ∧ RdP w s l := by
  obtain ⟨a0, len, cap, rfl⟩ := okWide_slice u22 hv
  obtain ⟨fuel, hf⟩ := h
  obtain ⟨f0, f1, hs, o0, o1, t0, t1⟩ := put_fields
  rcases open_slice_pairs u22 hs c34' o0 o1 (by rw [t0]; exact c3') (by rw [t1]; exact c9') hf with ⟨hcs, _⟩ | ⟨a, len', cap', m, n, V0, V1, D0, D1, P0, P1, hcs, _, hl, _, hm, _, hx⟩
  · simp [Value.cells] at hcs
    exact ⟨⟨none, 0, 0⟩, [], by simp [hcs], rfl, fun k x hk => by simp at hk⟩
  · simp [Value.cells] at hcs
    obtain ⟨rfl, rfl, rfl⟩ := hcs
    simp only [if_true] at hm
    have each : ∀ i, i < len → ∃ x : Int × ByteArray, w.cell? ((a.add (i * 2)).add 0) = some (.int .i64 x.1) ∧ w.cell? ((a.add (i * 2)).add 1) = some (.string x.2) := fun i hi => by
      obtain ⟨h0, h1, h2, h3⟩ := hx i (by omega)
      rw [t0] at h2
      rw [t1] at h3
      obtain ⟨z, hz, _⟩ := DataW.trod_int u3 h2
      obtain ⟨s, hs, _⟩ := DataW.trod_string u9 h3
      simp only [List.cons.injEq, and_true] at hz hs
      exact ⟨(z, s), by rw [Addr.add_zero', h0, hz], by rw [Addr.add_add, h1, hs]⟩
    have : ∀ k, k ≤ len → ∃ l : List (Int × ByteArray), l.length = k ∧ ∀ i x, l[i]? = some x → w.cell? ((a.add (i * 2)).add 0) = some (.int .i64 x.1) ∧ w.cell? ((a.add (i * 2)).add 1) = some (.string x.2) := by
      intro k
      induction k with
      | zero => intro _; exact ⟨[], rfl, fun i x h => by simp at h⟩
      | succ k ih =>
        intro hk
        obtain ⟨l, hl', hp⟩ := ih (by omega)
        obtain ⟨x, hx'⟩ := each k (by omega)
        refine ⟨l ++ [x], by simp [hl'], fun i y hy => ?_⟩
        by_cases hi : i < l.length
        · rw [List.getElem?_append_left hi] at hy; exact hp i y hy
        · have : i = l.length := by have := (List.getElem?_eq_some_iff.1 hy).1; simp at this; omega
          subst this
          simp at hy
          subst hy
          rw [hl']; exact hx'
    obtain ⟨l, hl', hp⟩ := this len (Nat.le_refl _)
    exact ⟨⟨some a, len, cap⟩, l, rfl, hl'.symm, fun k x hk => ⟨a, rfl, hp k x hk⟩⟩
end
end Go.Proofs.Ytmklfedlifcoiaa
namespace Go.Proofs.Ytmklfedlifcoiaa
open Go.Lift Go.ChangeShapes Go.WideShapes Go.ChangeAt Go.RowKit Go.Deep Go.Joins
theorem fall_fields : ∃ f0 f1 f2 : Field, Try.prog.underlying 25 = some (.struct #[f0, f1, f2]) ∧ f0.type = 23 ∧ f1.type = 3 ∧ f2.type = 3 ∧ oneCellFields Try.prog #[f0, f1, f2] = true := by
  have h : (Try.prog.underlying 25).map (fun d => match d with | .struct fs => (fs.toList.map (fun f => f.type), oneCellFields Try.prog fs) | _ => ([], false)) = some ([23, 3, 3], true) := by kernel_rfl
  cases hd : Try.prog.underlying 25 with
  | none => rw [hd] at h; cases h
  | some d =>
    rw [hd] at h
    cases d with
    | struct fs =>
      obtain ⟨l⟩ := fs
      match l with
      | [f0, f1, f2] => simp at h; exact ⟨f0, f1, f2, rfl, h.1.1, h.1.2.1, h.1.2.2, h.2⟩
      | [] => simp at h
      | [_] => simp at h
      | [_, _] => simp at h
      | _ :: _ :: _ :: _ :: _ => simp at h
    | _ => simp at h
theorem u4 : Try.prog.underlying 4 = some .bool := by kernel_rfl
theorem c4' : Try.prog.cellsOf 4 = 1 := by kernel_rfl
theorem c25' : Try.prog.cellsOf 25 = 3 := by kernel_rfl
section
variable {H : Type} {enc : TypeId × Value → H} {w : World}
theorem open_fall {v : Value} {d : DataW H} {p : List MemPlace} {r : Reach} {b0 : Nat} (hv : Value.okWide Try.prog w r b0 25 v) (h : DataW.Trod enc Try.prog w 0 (fun _ => true) true 25 v d p) :
    ∃ (s : Sl) (l : List Bool) (torn cut : Int), v = .agg #[.slice s.a s.n s.c, .int .i64 torn, .int .i64 cut] ∧ RdB w s l ∧
      (d = .agg [.nil, .lit (.int .i64 torn), .lit (.int .i64 cut)] ∧ l = [] ∨ ∃ el sp, d = .agg [.slice el sp, .lit (.int .i64 torn), .lit (.int .i64 cut)] ∧ el.length = l.length) := by
  obtain ⟨f0, f1, f2, hs, t0, t1, t2, hone⟩ := fall_fields
  obtain ⟨v0, v1, v2, y0, y1, y2, n, rfl, rfl, _, h0, h1, h2⟩ := open_agg3 hs hone c25' hv h
  rw [t0] at h0
  rw [t1] at h1
  rw [t2] at h2
  obtain ⟨z1, e1, rfl, _⟩ := DataW.trod_int u3 h1
  obtain ⟨z2, e2, rfl, _⟩ := DataW.trod_int u3 h2
  simp only [List.cons.injEq, and_true] at e1 e2
  subst e1 e2
  rcases open_bools u23 u4 c4' h0 with ⟨hcs, rfl⟩ | ⟨a, len, cap, Bf, hcs, _, hl, _, rfl, hx⟩
  · simp only [List.cons.injEq, and_true] at hcs
    subst hcs
    exact ⟨⟨none, 0, 0⟩, [], z1, z2, rfl, ⟨rfl, fun h => absurd rfl h⟩, .inl ⟨rfl, rfl⟩⟩
  · simp only [List.cons.injEq, and_true] at hcs
    subst hcs
    refine ⟨⟨some a, len, cap⟩, (List.range len).map Bf, z1, z2, rfl, ⟨by simp, fun _ => ⟨a, rfl, fun j u hj => ?_⟩⟩, .inr ⟨_, _, rfl, by simp⟩⟩
    simp only [List.map_map, List.getElem?_map, Option.map_eq_some_iff] at hj
    obtain ⟨i, hi, rfl⟩ := hj
    obtain ⟨hlt, hi⟩ := List.getElem?_eq_some_iff.1 hi
    simp at hi hlt
    subst hi
    exact hx j (by omega)
end
end Go.Proofs.Ytmklfedlifcoiaa
