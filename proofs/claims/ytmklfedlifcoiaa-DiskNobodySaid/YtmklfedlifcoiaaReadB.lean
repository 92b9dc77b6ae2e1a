/- disk.Read. -/
import Derived.Test.YtmklfedlifcoiaaReadA
import Derived.RangeFuncNested
import Derived.RegionIn
namespace Go.Proofs.Ytmklfedlifcoiaa
open Go.Lift Go.RowKit Go.Shelf
attribute [local go_sem] Oper.semAt_some

def lastAt (c : List (Nat × List UInt8)) (i : Int) : Option (List UInt8) := (c.reverse.find? fun x => (x.1 : Int) == i).map (·.2)
def DM.read (d : DM) (i : Int) : List UInt8 × Int :=
  if d.ready i ≠ 0 then ([], d.ready i) else (match lastAt d.cache i with
    | some s => s
    | none => d.plat.getD i.toNat [], 0)

/-- the cache's k-th row, or some row -/
def rowOf (c : List (Nat × List UInt8)) (k : Nat) : Nat × List UInt8 := c.getD k (0, List.replicate 64 0)

theorem wpListIn_storeT {F : Fence} {n : Nat} {P : Program} {ops : Array Oper} {Q : Exit → Act → World → Prop} {rest : List Oper} {a : Act} {w w' : World} {d : Option Tmp} {pos : String} {after : Array Edge} {t ty : TypeId} {x v : Operand}
    (ad : Addr) (cs : Array Value) (hx : a.eval x = .pointer (some ad)) (hv : a.eval v = .agg cs) (hrun : (storeVar t ad (.agg cs)).run P w = .ok () w') (h : wpListIn F n P ops Q rest (a.put d undef) w') :
    wpListIn F n P ops Q ({ dst := d, op := .store t x v, type := ty, pos := pos, after := after, guard := none } :: rest) a w := by
  refine wpListIn_plain rfl fun K hK => ?_
  unfold Oper.wpIn
  refine ⟨by simp [Oper.about], ?_⟩
  rw [Oper.semAt_plain F _ _ (by intro c hc; cases hc)]
  simp [execOp, hx, hv, Instr.storeAt, Instr.sureAddr, hrun, Result.andThen]
  exact hK _ _ h

theorem cache_stops {w : World} {p : Nat} {d : DM} {bp : Nat} {cs ks : Sl} (D : Disk w p d bp cs ks) (n Bs n₀ : Nat) (hn₀ : n₀ ≤ w.heap.size) (hBn : Bs < n₀) (hcb : ∀ a, cs.a = some a → a.block < n₀)
    (hBs : w.cell? ⟨Bs, 0, none⟩ = some (.slice cs.a cs.n cs.c)) :
    SeqStopsK Fence.wide n Try.prog 45 #[.pointer (some ⟨Bs, 0, none⟩)] (fun x : Nat => #[.int .i64 (x : Int), .agg (wv (rowOf d.cache x)).toArray]) (Below n₀) (fun ys => ys = dn d.cache.length d.cache.length) (fun pre => ∃ k, k ≤ d.cache.length ∧ pre = dn d.cache.length k) d.cache.length w := by
  rcases D.cache.2 with ⟨hv, hn0⟩ | ⟨g, cap, cur, hv, _, hg, hnc, hcm, hsz, htake⟩
  · intro l J Jx W hW _ _ hY h0
    simp only [Value.slice.injEq] at hv
    rw [hv.1, hv.2.1, hv.2.2] at hBs
    refine (f45_nil n l Bs J W ((hW.cell (p := ⟨Bs, 0, none⟩) (by show Bs < _; omega)).trans hBs) h0).mono ?_
    rintro e W' ⟨he, h⟩
    exact ⟨he, .inl ⟨_, by rw [hn0]; rfl, h⟩⟩
  · simp only [Value.slice.injEq] at hv
    rw [hv.1, hv.2.1] at hBs
    refine f45_stops n Bs n₀ g d.cache.length cs.c (fun x => (wv (rowOf d.cache x)).toArray) (fun i => ?_) (by unfold maxLen at hcm; omega) (hcb _ hv.1) hBn w hn₀ hBs (fun i hi j v hj => ?_)
    · unfold rowOf
      by_cases h : i < d.cache.length
      · rw [List.getD_eq_getElem?_getD, List.getElem?_eq_getElem h]
        simp [wv_length (D.cwf _ (List.getElem_mem h)).2]
      · rw [List.getD_eq_getElem?_getD, List.getElem?_eq_none (by omega)]
        simp [wv, bv]
    · obtain ⟨g', cur', hg', _, BG, _, _, hrow⟩ := cache_row D (List.getElem?_eq_getElem hi)
      rw [hv.1] at hg'
      cases hg'
      have hj65 : j < 65 := by
        have := (List.getElem?_eq_some_iff.1 (by simpa using hj)).1
        unfold rowOf at this
        rwa [List.getD_eq_getElem?_getD, List.getElem?_eq_getElem hi, Option.getD_some, wv_length (D.cwf _ (List.getElem_mem hi)).2] at this
      refine BG.cell ?_
      rw [hrow j hj65]
      unfold rowOf at hj
      rw [List.getD_eq_getElem?_getD, List.getElem?_eq_getElem hi, Option.getD_some] at hj
      simpa using hj

theorem store74_run {W : World} (z cs : Array Value) (hz : z.size = 65) (hcs : cs.size = 65) (h1 : ∀ v ∈ cs.toList, v.oneCell' = true) :
    (storeVar 74 ⟨W.heap.size, 0, none⟩ (.agg cs)).run Try.prog (W.alloc (.cells z 74)) = .ok () ((W.alloc (.cells z 74)).setRow W.heap.size cs) := by
  obtain ⟨i, hi, hs⟩ := info74
  rw [run_storeVar_agg hi _ _ (by simp only [Value.cells]; rw [hs, hcs])]
  have := run_storeCells_at Try.prog W.heap.size 0 74 cs.toList 0 z (W.alloc (.cells z 74)) (heap_alloc_new _ _) (by simp [hz, hcs]) h1
  simp only [Value.cells, Nat.add_zero] at this ⊢
  rw [this]
  congr 2
  have hd : List.drop 65 z.toList = [] := List.drop_eq_nil_of_le (by simp [hz])
  simp [hcs, hd]
theorem zero74 : ∃ Z : Array Value, Z.size = 65 ∧ ∀ W, (zeroValue 74).run Try.prog W = .ok (.agg Z) W := by
  have h : (Try.prog.info? 74).map (fun i => i.zero.map fun z => (match z with | .agg cs => cs.size | _ => 0)) = some (some 65) := by kernel_rfl
  cases hi : Try.prog.info? 74 with
  | none => rw [hi] at h; cases h
  | some i =>
    rw [hi] at h
    simp only [Option.map_some, Option.some.injEq] at h
    cases hz : i.zero with
    | none => rw [hz] at h; simp at h
    | some z =>
      rw [hz] at h
      cases z with
      | agg cs => exact ⟨cs, by simpa using h, fun W => by simp [zeroValue, typeInfo, hi, hz]⟩
      | _ => simp at h
theorem fr_keepsFrom {W W' : World} (F : Fr noB W W') (B : Nat) : KeepsFrom B W W' := ⟨F.size, fun k _ _ hk _ => (F.blk k (Array.getElem?_eq_some_iff.1 hk).1 (fun h => h)).trans hk⟩
theorem fr_grown_by {W W' : World} {row : Option Nat} (g : W.grownBy W' row) {B : Nat} (hr : ∀ r, row = some r → B ≤ r) : Fr (fun k => B ≤ k) W W' := (Fr.of_grown g).mono fun k _ e => hr k e
theorem row65 {w : World} {p : Nat} {d : DM} {bp : Nat} {cs ks : Sl} (D : Disk w p d bp cs ks) (x : Nat) : (rowOf d.cache x).2.length = 64 := by
  unfold rowOf
  by_cases h : x < d.cache.length
  · rw [List.getD_eq_getElem?_getD, List.getElem?_eq_getElem h]
    exact (D.cwf _ (List.getElem_mem h)).2
  · rw [List.getD_eq_getElem?_getD, List.getElem?_eq_none (by omega)]
    simp
theorem ready_in {d : DM} {i : Int} (h : d.ready i = 0) : d.dead = false ∧ 0 ≤ i ∧ i < d.plat.length := by
  unfold DM.ready at h
  cases hd : d.dead with
  | true => rw [hd] at h; simp at h
  | false =>
    rw [hd] at h
    simp only [Bool.false_eq_true, if_false] at h
    split at h
    · cases h
    · exact ⟨rfl, by omega, by omega⟩
theorem dn_mem (len x : Nat) (h : x < len) : x ∈ dn len len := by
  unfold dn
  exact List.mem_map.2 ⟨len - 1 - x, List.mem_range.2 (by omega), by omega⟩
theorem lastAt_none {c : List (Nat × List UInt8)} {i : Int} (h : ∀ y ∈ dn c.length c.length, ((rowOf c y).1 : Int) ≠ i) : lastAt c i = none := by
  unfold lastAt
  rw [Option.map_eq_none_iff, List.find?_eq_none]
  intro x hx
  obtain ⟨k, hk, rfl⟩ := List.mem_iff_getElem.1 (List.mem_reverse.1 hx)
  have := h k (dn_mem _ _ hk)
  unfold rowOf at this
  rw [List.getD_eq_getElem?_getD, List.getElem?_eq_getElem hk, Option.getD_some] at this
  simpa using this
theorem lastAt_some {c : List (Nat × List UInt8)} {i : Int} {k y : Nat} {pre' : List Nat} (hk : k ≤ c.length) (he : pre' ++ [y] = dn c.length k) (hy : ((rowOf c y).1 : Int) = i) (hn : ∀ z ∈ pre', ((rowOf c z).1 : Int) ≠ i) :
    lastAt c i = some (rowOf c y).2 := by
  cases k with
  | zero => simp [dn] at he
  | succ k =>
    rw [dn_succ] at he
    obtain ⟨h1, h2⟩ := List.append_inj' he rfl
    simp only [List.cons.injEq, and_true] at h2
    subst h1 h2
    have hlt : c.length - 1 - k < c.length := by omega
    have hc : c = c.take (c.length - 1 - k) ++ (rowOf c (c.length - 1 - k) :: c.drop (c.length - 1 - k + 1)) := by
      have e : rowOf c (c.length - 1 - k) = c[c.length - 1 - k] := by
        unfold rowOf; rw [List.getD_eq_getElem?_getD, List.getElem?_eq_getElem hlt, Option.getD_some]
      rw [e, ← List.drop_eq_getElem_cons hlt, List.take_append_drop]
    unfold lastAt
    generalize hr : rowOf c (c.length - 1 - k) = r at *
    have hd : ∀ x ∈ (c.drop (c.length - 1 - k + 1)).reverse, ¬ ((x.1 : Int) == i) = true := fun x hx => by
      obtain ⟨j, hj, rfl⟩ := List.mem_iff_getElem.1 (List.mem_reverse.1 hx)
      have hj' : j < c.length - (c.length - 1 - k + 1) := by simpa using hj
      have := hn (c.length - 1 - k + 1 + j) (by
        unfold dn
        exact List.mem_map.2 ⟨c.length - 1 - (c.length - 1 - k + 1 + j), List.mem_range.2 (by omega), by omega⟩)
      unfold rowOf at this
      rw [List.getD_eq_getElem?_getD, List.getElem?_eq_getElem (by omega), Option.getD_some] at this
      rw [List.getElem_drop]
      simpa using this
    rw [hc, List.reverse_append, List.reverse_cons, List.append_assoc, List.find?_append, List.find?_eq_none.2 hd]
    simp [hy]
/-- two cells of one's own are written -/
theorem two_cells {w W : World} (F : Fr noB w W) {m4 m5 : Nat} {t4 t5 : TypeId} {u4 u5 v4 v5 : Value} (B4 : Blk W m4 t4 [u4]) (B5 : Blk W m5 t5 [u5]) (hne : m4 ≠ m5) (h4 : w.heap.size ≤ m4) (h5 : w.heap.size ≤ m5) :
    Blk ((W.setCell ⟨m4, 0, none⟩ v4).setCell ⟨m5, 0, none⟩ v5) m4 t4 [v4] ∧ Blk ((W.setCell ⟨m4, 0, none⟩ v4).setCell ⟨m5, 0, none⟩ v5) m5 t5 [v5] ∧ Fr noB w ((W.setCell ⟨m4, 0, none⟩ v4).setCell ⟨m5, 0, none⟩ v5) ∧
      KeepsOthers W ((W.setCell ⟨m4, 0, none⟩ v4).setCell ⟨m5, 0, none⟩ v5) := by
  have F4 := fr_setCell W ⟨m4, 0, none⟩ v4
  have F5 := fr_setCell (W.setCell ⟨m4, 0, none⟩ v4) ⟨m5, 0, none⟩ v5
  refine ⟨(B4.set 0 v4).fr F5 hne, (B5.fr F4 (fun h => hne h.symm)).set 0 v5, (F.then F4 ?_).then F5 ?_, (KeepsOthers.setCell _ _ _).trans (KeepsOthers.setCell _ _ _)⟩
  · intro x hx h
    have h : x = m4 := h
    omega
  · intro x hx h
    have h : x = m5 := h
    omega

set_option maxRecDepth 100000 in
set_option maxHeartbeats 4000000 in
theorem read_ok {w : World} {p : Nat} {d : DM} {B : Nat → Prop} (D0 : DAt w p d B) (i : Int) : Calls Try.prog 27 #[.pointer (some ⟨p, 0, none⟩), .int .i64 i] w fun e w' =>
    e = .returned (.tuple #[.string ⟨(d.read i).1.toArray⟩, .int .i64 (d.read i).2]) ∧ Fr noB w w' := by
  obtain ⟨bp, cs, ks, D, hB⟩ := D0
  refine (callsIn_wide (n := 9)).1 ?_
  refine callsIn_of_wp_marks Try.func27 rfl trivial ?_ rfl
  simp only [Try.ntmps27, List.size_toArray, List.length_cons, List.length_nil, Nat.reduceAdd, Nat.reduceSub, Array.replicate_succ, Array.replicate_zero, List.push_toArray, List.append_toArray, List.nil_append, List.cons_append]
  obtain ⟨w1, hw1⟩ : ∃ w1, w.alloc (.cells #[.int .i64 i] 3) = w1 := ⟨_, rfl⟩
  obtain ⟨w2, hw2⟩ : ∃ w2, w1.alloc (.cells #[.string ⟨#[]⟩] 9) = w2 := ⟨_, rfl⟩
  obtain ⟨w3, hw3⟩ : ∃ w3, w2.alloc (.cells #[.int .i64 0] 28) = w3 := ⟨_, rfl⟩
  have B1 : Blk w1 w.heap.size 3 [.int .i64 i] := hw1 ▸ blk_alloc w _ _
  have F1 : Fr noB w w1 := hw1 ▸ fr_alloc w _
  have hs1 : w1.heap.size = w.heap.size + 1 := by rw [← hw1]; simp
  have B2 : Blk w2 (w.heap.size + 1) 9 [.string ⟨#[]⟩] := by have := blk_alloc w1 #[.string ⟨#[]⟩] 9; rw [hw2, hs1] at this; exact this
  have F2 : Fr noB w1 w2 := hw2 ▸ fr_alloc w1 _
  have hs2 : w2.heap.size = w.heap.size + 2 := by rw [← hw2]; simp [hs1]
  have B3 : Blk w3 (w.heap.size + 2) 28 [.int .i64 0] := by have := blk_alloc w2 #[.int .i64 0] 28; rw [hw3, hs2] at this; exact this
  have F3 : Fr noB w2 w3 := hw3 ▸ fr_alloc w2 _
  have hs3 : w3.heap.size = w.heap.size + 3 := by rw [← hw3]; simp [hs2]
  have B13 := (B1.fr F2 (fun h => h)).fr F3 (fun h => h)
  have B23 := B2.fr F3 (fun h => h)
  have F03 : Fr noB w w3 := (F1.then F2 fun _ _ h => h).then F3 fun _ _ h => h
  have D3 := D.fr F03 (fun _ _ h => h)
  have c1 := B1.cell (o := 0) rfl
  have c3 := B13.cell (o := 0) rfl
  gi_wp2_with (first | gi_at_call 30 | simp only [hw1] | simp only [hw2] | simp only [hw3])
  refine ⟨trivial, (callsIn_wide.2 (ready_ok D3 i)).mono ?_⟩
  rintro e w3' ⟨rfl, hw'⟩
  obtain rfl : w3 = w3' := hw'.symm
  have cp := D3.blk.cell (o := 1) rfl
  have fz4 := B23.frozen 0
  have fz5 := B3.frozen 0
  have c4 := B23.cell (o := 0) rfl
  have c5 := B3.cell (o := 0) rfl
  gi_wp2_with (gi_at_call 42)
  · rename_i hx
    have hr : d.ready i ≠ 0 := by simpa using hx
    obtain ⟨k4, k5, kF, _⟩ := two_cells (v4 := .string ⟨#[]⟩) (v5 := .int .i64 (d.ready i)) F03 B23 B3 (by omega) (by omega) (by omega)
    have k4 := k4.cell (o := 0) rfl
    have k5 := k5.cell (o := 0) rfl
    have hrd : d.read i = ([], d.ready i) := by simp only [DM.read, if_pos hr]
    rw [hrd]
    refine ⟨.tuple #[.string ⟨#[]⟩, .int .i64 (d.ready i)], ?_, rfl, kF⟩
    simp [results, Try.f27, go_sem, k4, k5]
  · have hr : d.ready i = 0 := by simpa using ‹(d.ready i != 0) = false›
    refine ⟨trivial, (f42_in' cs.a cs.n cs.c w3).mono ?_⟩
    rintro e w4 ⟨rfl, hw4⟩
    simp only []
    gi_wp2
    have F34 : Fr noB w3 w4 := hw4 ▸ fr_alloc w3 _
    have hs4 : w4.heap.size = w.heap.size + 4 := by rw [hw4]; simp [hs3]
    have F04 : Fr noB w w4 := F03.then F34 fun _ _ h => h
    have D4 := D3.fr F34 (fun _ _ h => h)
    have B14 := B13.fr F34 (fun h => h)
    have B24 := B23.fr F34 (fun h => h)
    have B34 := B3.fr F34 (fun h => h)
    have BB : Blk w4 w3.heap.size 59 [.slice cs.a cs.n cs.c] := hw4 ▸ blk_alloc w3 _ _
    have hcsb : ∀ a, cs.a = some a → a.block < w.heap.size := fun a ha => by
      rcases D.cache.2 with ⟨hv, _⟩ | ⟨g, cap, cur, hv, _, hg, _⟩
      · simp only [Value.slice.injEq] at hv; rw [hv.1] at ha; cases ha
      · simp only [Value.slice.injEq] at hv
        rw [hv.1] at ha
        cases ha
        exact (Array.getElem?_eq_some_iff.1 hg).1
    have hseq := cache_stops D4 8 w3.heap.size w4.heap.size (Nat.le_refl _) (by omega) (fun a ha => by have := hcsb a ha; omega) (BB.cell (o := 0) rfl)
    refine wpIn_rangeFunc_ownH rfl (by omega) (gf := 45) (lb := #[.pointer (some ⟨w3.heap.size, 0, none⟩)]) rfl trivial (enters_of Try.func45 (by kernel_rfl) rfl) hseq
      (fun h k => belowK_t h k) (belowK_b (Nat.le_refl _)) (Below.refl _ _) (fun _ => rfl)
      (fun pre W => (∀ y ∈ pre, ((rowOf d.cache y).1 : Int) ≠ i) ∧ Blk W w.heap.size 3 [.int .i64 i] ∧ Blk W (w.heap.size + 1) 9 [.string ⟨#[]⟩] ∧ Blk W (w.heap.size + 2) 28 [.int .i64 0] ∧ Fr noB w W ∧ w4.heap.size ≤ W.heap.size)
      (fun c pre W => c = .ret ∧ ∃ y pre', pre = pre' ++ [y] ∧ ((rowOf d.cache y).1 : Int) = i ∧ (∀ z ∈ pre', ((rowOf d.cache z).1 : Int) ≠ i) ∧ Blk W (w.heap.size + 1) 9 [.string ⟨(rowOf d.cache y).2.toArray⟩] ∧ Blk W (w.heap.size + 2) 28 [.int .i64 0] ∧ Fr noB w W)
      ?hI ?hIx ⟨fun y hy => (by simp at hy), B14, B24, B34, F04, Nat.le_refl _⟩
      (fun x a' W => ∃ m, w4.heap.size ≤ m ∧ a' = { tmps := #[Value.pointer (some { block := p, off := 0 }), Value.int IntKind.i64 i, undef,
          Value.pointer (some { block := w.heap.size, off := 0 }),
          Value.pointer (some { block := w.heap.size + 1, off := 0 }),
          Value.pointer (some { block := w.heap.size + 2, off := 0 }), Value.int IntKind.i64 (d.ready i), undef, Value.pointer (some { block := m, off := 0 }),
          Value.pointer (some { block := p, off := 0 }), Value.int IntKind.i64 i, Value.int IntKind.i64 (d.ready i),
          Value.int IntKind.i64 (d.ready i), Value.bool (d.ready i != 0), undef,
          Value.pointer (some { block := p, off := 0 }), Value.pointer (some { block := p, off := 0 }),
          Value.pointer (some { block := p, off := 1 }), Value.slice cs.a cs.n cs.c,
          Value.func (Fn.func 45) #[] #[Value.pointer (some { block := w3.heap.size, off := 0 })], Value.int .i64 (x : Int), Value.agg (wv (rowOf d.cache x)).toArray, undef,
          undef, undef, undef, undef, undef, undef, undef, undef, undef, undef, undef, undef, undef, undef], defers := [] } ∧ Blk W m 74 (wv (rowOf d.cache x)))
      ?hAx ?assign ?body ?done ?stop
    case hI =>
      rintro pre X Y row ⟨h1, h2, h3, h4, h5, h6⟩ hg hr
      have F := fr_grown_by hg (fun r e => (hr r e).1)
      exact ⟨h1, h2.fr F (by omega), h3.fr F (by omega), h4.fr F (by omega), h5.then F (fun k hk h => by omega), Nat.le_trans h6 hg.size⟩
    case hIx =>
      rintro c pre X Y row ⟨h1, y, pre', h2, h3, h4, h5, h6, h7⟩ hg hr
      have F := fr_grown_by hg (fun r e => (hr r e).1)
      exact ⟨h1, y, pre', h2, h3, h4, h5.fr F (by omega), h6.fr F (by omega), h7.then F fun k hk h => by omega⟩
    case hAx =>
      rintro x a' _ X Y row ⟨m, h1, h2, h3⟩ hg hr
      refine ⟨m, h1, h2, ?_⟩
      have F := Fr.of_grown hg
      refine h3.fr F fun e => ?_
      obtain ⟨_, o, ho, hc⟩ := hr m e
      rw [h3] at ho
      cases ho
      cases hc
    case assign =>
      rintro l pre x W K hI hK
      obtain ⟨Z, hZ, hzero⟩ := zero74
      have hz1 := hzero W
      have hx65 : (wv (rowOf d.cache x)).toArray.size = 65 := by
        simp [wv_length (row65 D x)]
      gi_wp2_with (refine wpListIn_storeT (t := 74) ⟨W.heap.size, 0, none⟩ (wv (rowOf d.cache x)).toArray rfl rfl (store74_run _ _ hZ hx65 (by simpa using wv_one)) ?_)
      have FA := fr_alloc W (.cells Z 74)
      have FB := fr_setRow (W.alloc (.cells Z 74)) W.heap.size (wv (rowOf d.cache x)).toArray
      have FW : Fr noB W ((W.alloc (.cells Z 74)).setRow W.heap.size (wv (rowOf d.cache x)).toArray) := FA.then FB fun k hk e => by have e : k = W.heap.size := e; omega
      obtain ⟨i1, i2, i3, i4, i5, hW4⟩ := hI
      refine hK _ _ (fr_keepsFrom FW _) ?_ ⟨i1, i2.fr FW (fun h => h), i3.fr FW (fun h => h), i4.fr FW (fun h => h), i5.then FW (fun _ _ h => h), Nat.le_trans hW4 FW.size⟩ ⟨W.heap.size, hW4, ?_, ?_⟩
      · exact ⟨rfl, rfl, rfl, FW.size, fun k hk => FW.blk k (by omega) (fun h => h)⟩
      · simp [hr, hs3]
      · have := Blk.row (blk_alloc W Z 74) (wv (rowOf d.cache x))
        exact this
    case body =>
      rintro l pre x a' W hl hrec ⟨i1, i2, i3, i4, i5, hW4⟩ ⟨m, hm, rfl, Bm⟩ hlen
      have k0 := Bm.cell (o := 0) rfl
      have k3 := i2.cell (o := 0) rfl
      have k4 := i3.cell (o := 0) rfl
      have k5 := i4.cell (o := 0) rfl
      have z4 := i3.frozen 0
      have z5 := i4.frozen 0
      have h64 := row65 D x
      have hcv := run_convert_bytes_back (P := Try.prog) W 75 9 5 ⟨m, 1, none⟩ 64 (rowOf d.cache x).2 u75 u75b u9 (fun j hj => by
        rw [Addr.add_lit]
        refine Bm.cell ?_
        rw [Nat.add_comm, wv_tail]
        unfold bv
        rw [List.getElem?_map, List.getElem?_eq_getElem hj]; rfl)
      rw [h64] at hcv
      gi_wp2
      · obtain ⟨k4, k5, kF, kK⟩ := two_cells (v4 := .string ⟨(rowOf d.cache x).2.toArray⟩) (v5 := .int .i64 0) i5 i3 i4 (by omega) (by omega) (by omega)
        have hx : ((rowOf d.cache x).1 : Int) = i := by simpa using ‹(((rowOf d.cache x).1 : Int) == i) = true›
        exact ⟨kK.from _, rfl, x, pre, rfl, hx, i1, k4, k5, kF⟩
      · have hx : ((rowOf d.cache x).1 : Int) ≠ i := by simpa using ‹(((rowOf d.cache x).1 : Int) == i) = false›
        refine ⟨KeepsFrom.refl _ _, Below.refl _ _, fun y hy => ?_, i2, i3, i4, i5, hW4⟩
        rcases List.mem_append.1 hy with hy | hy
        · exact i1 y hy
        · rw [List.mem_singleton.1 hy]; exact hx
    case done =>
      rintro D' xs W hD rfl ⟨i1, i2, i3, i4, i5, hW4⟩ hK
      have DW := D.fr i5 (fun _ _ h => h)
      have k3 := i2.cell (o := 0) rfl
      have k4 := i3.cell (o := 0) rfl
      have k5 := i4.cell (o := 0) rfl
      have z4 := i3.frozen 0
      have z5 := i4.frozen 0
      have kp := DW.blk.cell (o := 0) rfl
      obtain ⟨_, hi0, hi1⟩ := ready_in hr
      obtain ⟨n, rfl⟩ := Int.eq_ofNat_of_zero_le hi0
      have hn : n < d.plat.length := by omega
      have h64 := D.len _ (List.getElem_mem hn)
      have hcv := run_convert_bytes_back (P := Try.prog) W.drew 75 9 5 ⟨bp, n * 64, none⟩ 64 d.plat[n] u75 u75b u9 (fun j hj => by
        rw [Addr.add_lit]
        refine DW.plat.cell (w := W) ?_
        rw [flat_at bv 64 (fun y hy => by rw [bv_length]; exact D.len y hy) (List.getElem?_eq_getElem hn) j (by omega)]
        unfold bv
        rw [List.getElem?_map, List.getElem?_eq_getElem hj]; rfl)
      rw [h64] at hcv
      have hrd : d.read n = (d.plat[n], 0) := by
        simp only [DM.read, hr, ne_eq, not_true, if_false, lastAt_none i1, Int.toNat_natCast]
        rw [List.getD_eq_getElem?_getD, List.getElem?_eq_getElem hn, Option.getD_some]
      gi_wp2
      gi_region
      gi_wp2
      rw [hrd]
      obtain ⟨k4, k5, kF, kK⟩ := two_cells (v4 := .string ⟨d.plat[n].toArray⟩) (v5 := .int .i64 0) i5 i3 i4 (by omega) (by omega) (by omega)
      have hK' := kK.same D' _ hK rfl
      generalize (W.setCell { block := w.heap.size + 1, off := 0 } (Value.string { data := d.plat[n].toArray })).setCell { block := w.heap.size + 2, off := 0 } (Value.int IntKind.i64 0) = W2 at *
      refine ⟨by simp, .inl ⟨_, _, rfl, run_takeDeferred (w := W2.drew) hK', ?_⟩⟩
      have FD := fr_grown_by (B := w4.heap.size) (grownBy_putObj' W2.drew D' (.deferred none)) (fun r e => by cases e; exact hD)
      have FR := fr_drew W2
      have k4 := ((k4.fr FR (fun h => h)).fr FD (by omega)).cell (o := 0) rfl
      have k5 := ((k5.fr FR (fun h => h)).fr FD (by omega)).cell (o := 0) rfl
      refine ⟨.tuple #[.string ⟨d.plat[n].toArray⟩, .int .i64 0], ?_, rfl, (kF.then FR fun _ _ h => h).then FD fun k hk h => by omega⟩
      simp [results, Try.f27, go_sem, k4, k5]
    case stop =>
      rintro D' c pre W hD ⟨k, hk, he⟩ ⟨rfl, y, pre', rfl, hy, i1, i3, i4, i5⟩ hK
      have hrd : d.read i = ((rowOf d.cache y).2, 0) := by
        simp only [DM.read, hr, ne_eq, not_true, if_false, lastAt_some hk he hy i1]
      gi_wp2
      rw [hrd]
      refine ⟨by simp, .inl ⟨_, _, rfl, run_takeDeferred hK, ?_⟩⟩
      have FD := fr_grown_by (B := w4.heap.size) (grownBy_putObj' W D' (.deferred none)) (fun r e => by cases e; exact hD)
      have k4 := (i3.fr FD (by omega)).cell (o := 0) rfl
      have k5 := (i4.fr FD (by omega)).cell (o := 0) rfl
      refine ⟨.tuple #[.string ⟨(rowOf d.cache y).2.toArray⟩, .int .i64 0], ?_, rfl, i5.then FD fun k hk h => by omega⟩
      simp [results, Try.f27, go_sem, k4, k5]
end Go.Proofs.Ytmklfedlifcoiaa
