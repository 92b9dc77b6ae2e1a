/- A law's argument, opened: a row of tokens. No condition. -/
import Derived.Test.YthnfcbjfmghomaaGreatDoorWrapL
import Derived.Test.YthnfcbjfmghomaaGreatDoorWrap
import Derived.Deep.Slices
import Derived.Deep.SlicePairs
namespace Go.Proofs.YthnfcbjfmghomaaGreatDoor
open Go.Lift Go.ChangeShapes Go.WideShapes Go.ChangeAt Go.RowKit Go.Deep Go.Joins
theorem tok_fields : ∃ f0 f1 f2 : Field, Tryz.prog.underlying 32 = some (.struct #[f0, f1, f2]) ∧ (f0.offset = 0 ∧ f0.type = 3) ∧ (f1.offset = 1 ∧ f1.type = 9) ∧ (f2.offset = 2 ∧ f2.type = 3) := by
  have h : (Tryz.prog.underlying 32).map (fun d => match d with | .struct fs => fs.toList.map (fun f => (f.offset, f.type)) | _ => []) = some [(0, 3), (1, 9), (2, 3)] := by kernel_rfl
  cases hd : Tryz.prog.underlying 32 with
  | none => rw [hd] at h; cases h
  | some d =>
    rw [hd] at h
    cases d with
    | struct fs =>
      obtain ⟨l⟩ := fs
      match l with
      | [f0, f1, f2] => simp at h; exact ⟨f0, f1, f2, rfl, h.1, h.2.1, h.2.2⟩
      | [] => simp at h
      | [_] => simp at h
      | [_, _] => simp at h
      | _ :: _ :: _ :: _ :: _ => simp at h
    | _ => simp at h
theorem uTokRow : Tryz.prog.underlying 24 = some (.slice 32) := by kernel_rfl
theorem uInt' : Tryz.prog.underlying 3 = some (.int .i64) := by kernel_rfl
theorem cTok' : Tryz.prog.cellsOf 32 = 3 := by kernel_rfl
theorem cInt' : Tryz.prog.cellsOf 3 = 1 := by kernel_rfl
theorem cStr' : Tryz.prog.cellsOf 9 = 1 := by kernel_rfl
section
variable {H : Type} {enc : TypeId × Value → H} {w : World}
set_option maxRecDepth 100000 in
theorem tok_cells {n : Nat} {cs : List Value} {x : DataW H × List MemPlace} (h : DataW.trod enc Tryz.prog w 0 (fun _ => true) true n 32 cs = some x) : ∃ a : Int × ByteArray × Int, cs = cells3 a := by
  obtain ⟨f0, f1, f2, hs, ⟨o0, t0⟩, ⟨o1, t1⟩, ⟨o2, t2⟩⟩ := tok_fields
  obtain ⟨xs, k, hk, rfl, hcl, hxl, hf⟩ := DataW.trod_struct hs h
  rw [cTok'] at hcl
  match xs, hxl, cs, hcl with
  | [y0, y1, y2], _, [v0, v1, v2], _ =>
    have g0 := hf 0 f0 rfl
    have g1 := hf 1 f1 rfl
    have g2 := hf 2 f2 rfl
    simp [o0, t0, cInt'] at g0
    simp [o1, t1, cStr'] at g1
    simp [o2, t2, cInt'] at g2
    obtain ⟨z0, e0, _, _⟩ := DataW.trod_int uInt' g0
    obtain ⟨s, e1, _, _⟩ := DataW.trod_string us g1
    obtain ⟨z2, e2, _, _⟩ := DataW.trod_int uInt' g2
    simp only [List.cons.injEq, and_true] at e0 e1 e2
    subst e0 e1 e2
    exact ⟨(z0, s, z2), rfl⟩
set_option maxRecDepth 100000 in
theorem open_toks {v : Value} {d : DataW H} {p : List MemPlace} {r : Reach} {b0 : Nat} (hv : Value.okWide Tryz.prog w r b0 24 v) (h : DataW.Trod enc Tryz.prog w 0 (fun _ => true) true 24 v d p) :
    ∃ (s : Sl) (l : List (Int × ByteArray × Int)), v = .slice s.a s.n s.c ∧ RdT w s l ∧ l.length ≤ 9223372036854775807 := by
  obtain ⟨a0, len, cap, rfl⟩ := okWide_slice uTokRow hv
  obtain ⟨fuel, hf⟩ := h
  rcases open_slice uTokRow hf with ⟨hcs, _⟩ | ⟨a, len', cap', m, n, D, Pl, hcs, _, hlc, hcm, hm, hx0, hx⟩
  · simp [Value.cells] at hcs
    exact ⟨⟨none, 0, 0⟩, [], by simp [hcs], ⟨rfl, fun k x hk => by simp at hk⟩, Nat.zero_le _⟩
  · simp [Value.cells] at hcs
    obtain ⟨rfl, rfl, rfl⟩ := hcs
    simp only [if_true] at hm
    have each : ∀ i, i < len → ∃ x : Int × ByteArray × Int, Held w (a.add (i * 3), cells3 x) := fun i hi => by
      obtain ⟨cs', h1, h2⟩ := hx i (by omega)
      obtain ⟨x, rfl⟩ := tok_cells h2
      rw [cTok'] at h1
      obtain ⟨_, hlen, hcell⟩ := World.cells?_some h1
      refine ⟨x, fun j u hj => ?_⟩
      have hj3 : j < 3 := by have := (List.getElem?_eq_some_iff.1 hj).1; simpa [cells3] using this
      have := hcell j (by simpa using hj3)
      rw [this]
      exact hj
    have : ∀ k, k ≤ len → ∃ l : List (Int × ByteArray × Int), l.length = k ∧ ∀ i x, l[i]? = some x → Held w (a.add (i * 3), cells3 x) := by
      intro k
      induction k with
      | zero => intro _; exact ⟨[], rfl, fun i x h => by simp at h⟩
      | succ k ih =>
        intro hk
        obtain ⟨l, hl', hp⟩ := ih (by omega)
        obtain ⟨x, hx'⟩ := each k (by omega)
        refine ⟨l ++ [x], by simp [hl'], fun i y hy => ?_⟩
        by_cases hi : i < l.length
        · rw [List.getElem?_append_left hi] at hy; exact hp i y hy
        · have : i = l.length := by have := (List.getElem?_eq_some_iff.1 hy).1; simp at this; omega
          subst this
          simp at hy
          subst hy
          rw [hl']; exact hx'
    obtain ⟨l, hl', hp⟩ := this len (Nat.le_refl _)
    refine ⟨⟨some a, len, cap⟩, l, rfl, ⟨hl'.symm, fun k x hk => ?_⟩, by unfold maxLen at hcm; omega⟩
    have hsp : a.spot = none := by
      have h0 : 0 < l.length := by have := (List.getElem?_eq_some_iff.1 hk).1; omega
      have hc := hp 0 l[0] (List.getElem?_eq_getElem h0) 0 _ rfl
      rw [Nat.zero_mul, Addr.add_zero', Addr.add_zero'] at hc
      unfold World.cell? at hc
      split at hc
      · split at hc
        · cases hc
        · rename_i hh
          cases hs : a.spot with
          | none => rfl
          | some _ => rw [hs] at hh; exact absurd rfl hh
      · cases hc
    obtain ⟨b, o, sp⟩ := a
    simp only at hsp
    subst hsp
    have hh := hp k x hk
    have h0 := hh 0 _ rfl
    have h1 := hh 1 _ rfl
    have h2 := hh 2 _ rfl
    simp only [Addr.add_lit, Nat.add_zero] at h0 h1 h2
    exact ⟨b, o, rfl, h0, h1, h2⟩
end
end Go.Proofs.YthnfcbjfmghomaaGreatDoor
