/- The disk's methods, further: arming, flushing. -/
import Derived.Test.YtmklfedlifcoiaaDiskC
namespace Go.Proofs.Ytmklfedlifcoiaa
open Go.Lift

def DM.arm (d : DM) (at' : Int) (keep : List Bool) (torn cut : Int) : DM × Int :=
  if d.ready 0 ≠ 0 then (d, d.ready 0) else if at' < 0 then (d, 2) else ({ d with armed := at', keep := keep, torn := torn, cut := cut }, 0)

theorem arm_ok {w : World} {p : Nat} {d : DM} {B : Nat → Prop} (D0 : DAt w p d B) (at' : Int) (hat : at' ≤ 9223372036854775807) (f : Sl) (keep : List Bool) (torn cut : Int) (hf : RdB w f keep) (hfs : keep ≠ [] → ∀ a, f.a = some a → ¬ B a.block) (hk : keep.length ≤ 140737488351232) :
    Calls Try.prog 11 #[.pointer (some ⟨p, 0, none⟩), .int .i64 at', .agg #[.slice f.a f.n f.c, .int .i64 torn, .int .i64 cut]] w fun e w' =>
      e = .returned (.int .i64 (d.arm at' keep torn cut).2) ∧ DAt w' p (d.arm at' keep torn cut).1 (Grow B w w') ∧ Fr B w w' := by
  obtain ⟨bp, cs, ks, D, hB⟩ := D0
  apply c11
  unfold t11
  refine new_ok fun w1 m5 hm5 hs1 B5 F1 => ?_
  have D1 := D.fr F1 (fun _ _ h => h)
  have same : DAt w1 p d (Grow B w w1) ∧ Fr B w w1 := ⟨⟨bp, cs, ks, D1, fun k hk => .inl (hB k hk)⟩, F1.mono fun _ _ h => h.elim⟩
  refine call_ok (ready_ok D1 0) ?_
  rintro _ w' ⟨rfl, hw'⟩
  replace hw' := hw'.symm
  subst hw'
  refine ⟨((d.ready 0, ()), ()), rfl, ite_ok (fun h => ?_) fun h => ?_⟩
  · have h : d.ready 0 ≠ 0 := by simpa using h
    simp only [DM.arm, if_pos h]
    exact ⟨rfl, same⟩
  have hr : ¬ d.ready 0 ≠ 0 := by simpa using h
  refine ite_ok (fun h => ?_) fun h => ?_
  · have h : at' < 0 := by simpa using h
    simp only [DM.arm, if_neg hr, if_pos h]
    exact ⟨rfl, same⟩
  have hn : ¬ at' < 0 := by simpa using h
  simp only [DM.arm, if_neg hr, if_neg hn]
  refine nn_ok (D1.blk.st (o := 5) rfl (by simp) fun w2 B2 F2 => drew_ok fun w3 F3 hs3 => ?_)
  have hpl := D.plat.lt
  have hpp := D.blk.lt
  have hne : m5 ≠ p := by omega
  have B53 := (B5.fr F2 hne).fr F3 (fun h => h)
  have BD3 := B2.fr F3 (fun h => h)
  refine B53.ldS (o := 0) rfl (B53.ld (o := 1) rfl (B53.ld (o := 2) rfl ?_))
  have hf3 := ((hf.fr F1 (fun _ _ _ h => h)).fr F2 (fun hl a ha e => hfs hl a ha (hB _ (.inl e)))).fr F3 (fun _ _ _ h => h)
  refine call_ok (clone31_ok ⟨f.a, f.n, f.c⟩ keep hf3 hk) ?_
  rintro _ w4 ⟨s', rfl, hs', F4, hnew⟩
  refine ⟨((s', ()), ()), rfl, ?_⟩
  have B54 := B53.fr F4 (fun h => h)
  have BD4 := BD3.fr F4 (fun h => h)
  refine keep_cons (B54.held1 (o := 2) rfl) (keep_cons (B54.held1 (o := 1) rfl) (keep_nil ?_))
  refine nn_ok (BD4.st (o := 2) rfl (by simp) fun w5 B5' F5 => B5'.st (o := 3) rfl (by simp) fun w6 B6 F6 => B6.st (o := 4) rfl (by simp) fun w7 B7 F7 => ?_)
  have F57 : Fr (oneB p) w4 w7 := (F5.then F6 fun _ _ h => h).then F7 fun _ _ h => h
  have F14 : Fr (oneB p) w1 w4 := (F2.then F3 fun _ _ h => h.elim).then F4 fun _ _ h => h.elim
  have F17 : Fr (oneB p) w1 w7 := F14.then F57 fun _ _ h => h
  have F07 : Fr (oneB p) w w7 := (F1.mono fun _ _ h => h.elim).then F17 fun _ _ h => h
  have h13 := F2.size
  have h57 := F57.size
  have hnw : ∀ a, s'.a = some a → w.heap.size ≤ a.block ∧ a.block < w7.heap.size := fun a ha => by
    have := hnew a ha
    exact ⟨by omega, by omega⟩
  refine ⟨rfl, ⟨bp, cs, s', ?_, ?_⟩, F07.mono fun k _ h => by rw [show k = p from h]; exact hB p (.inl rfl)⟩
  · exact {
      blk := by simpa [DM.cells] using B7
      plat := D.plat.fr F07 (fun e => D.s1 e.symm)
      len := D.len
      pos := D.pos
      big := D.big
      cache := own_cell D.cache F07 fun b e hb => by
        simp only [Value.ownBlock] at e
        cases ha : cs.a with
        | none => simp [ha] at e
        | some a => simp [ha] at e; exact (D.s2 a ha).1 (e.trans hb)
      cwf := D.cwf
      keep := hs'.fr F57 (fun hl a ha hb => by have := hnw a ha; have hb : a.block = p := hb; omega)
      arm0 := by show 0 ≤ at'; omega
      armU := hat
      ops0 := D.ops0
      s1 := D.s1
      s2 := D.s2
      s3 := fun hl a ha => by
        have := hnw a ha
        refine ⟨by omega, by omega, fun c hc => ?_⟩
        have hcl : c.block < w.heap.size := by
          rcases D.cache.2 with ⟨hv, _⟩ | ⟨g, cap, cur, hv, _, hg, _⟩
          · simp only [Value.slice.injEq] at hv; rw [hv.1] at hc; cases hc
          · simp only [Value.slice.injEq] at hv
            rw [hv.1] at hc
            cases hc
            exact (Array.getElem?_eq_some_iff.1 hg).1
        omega }
  · rintro k (h | h | h | ⟨_, a, ha, h⟩)
    · exact .inl (hB k (.inl h))
    · exact .inl (hB k (.inr (.inl h)))
    · exact .inl (hB k (.inr (.inr (.inl h))))
    · have := hnw a ha
      exact .inr ⟨by omega, by omega⟩

/-! ### Flushing -/
def flushL (c : List (Nat × List UInt8)) (pl : List (List UInt8)) : List (List UInt8) := c.foldl (fun pl x => pl.set x.1 x.2) pl
def DM.flush (d : DM) : DM × Int :=
  if d.ready 0 ≠ 0 then (d, d.ready 0) else if d.armed = 1 then (d.fell.dropped d.keep d.torn d.cut, 190) else ({ d.fell with plat := flushL d.cache d.plat, cache := [] }, 0)
theorem flushL_length : ∀ (c : List (Nat × List UInt8)) (pl : List (List UInt8)), (flushL c pl).length = pl.length
  | [], _ => rfl
  | x :: c, pl => by rw [flushL, List.foldl_cons]; exact (flushL_length c _).trans (by simp)
theorem set_len {pl : List (List UInt8)} {i : Nat} {s : List UInt8} (h : ∀ x ∈ pl, x.length = 64) (hs : s.length = 64) : ∀ x ∈ pl.set i s, x.length = 64 := fun x hx => by
  rcases List.mem_or_eq_of_mem_set hx with hx | rfl
  · exact h x hx
  · exact hs
theorem flushL_len : ∀ (c : List (Nat × List UInt8)) (pl : List (List UInt8)), (∀ x ∈ c, x.2.length = 64) → (∀ x ∈ pl, x.length = 64) → ∀ x ∈ flushL c pl, x.length = 64
  | [], _, _, h => h
  | x :: c, pl, hc, h => by rw [flushL, List.foldl_cons]; exact flushL_len c _ (fun y hy => hc y (by simp [hy])) (set_len h (hc x (by simp)))
theorem modify_const {α : Type} (x : α) : ∀ (l : List α) (i : Nat), l.modify i (fun _ => x) = l.set i x
  | [], i => by simp
  | y :: l, 0 => by simp
  | y :: l, i + 1 => by simp [modify_const x l i]
/-- a row put whole -/
theorem flat_put {pl : List (List UInt8)} (h : ∀ x ∈ pl, x.length = 64) {i : Nat} (hi : i < pl.length) (s : List UInt8) :
    (pl.flatMap bv).take (i * 64) ++ (bv s ++ (pl.flatMap bv).drop (i * 64 + 64)) = (pl.set i s).flatMap bv := by
  have := flat_set bv 64 (fun y hy => by rw [bv_length]; exact h y hy) hi (fun _ => s) (fun r => bv s ++ r.drop 64) (fun y hy r => by
    rw [List.drop_left' (by rw [bv_length]; exact h y hy)])
  rw [List.drop_drop] at this
  rw [this, modify_const]


theorem wv_tail {x : Nat × List UInt8} (j : Nat) : (wv x)[j + 1]? = (bv x.2)[j]? := rfl
theorem row_e13 {x : Nat × List UInt8} (hx2 : x.2.length = 64) : List.take 0 (#[Value.int IntKind.i64 0] ++ Array.replicate 64 (Value.int IntKind.u8 0)).toList ++ ((wv x).toArray.toList ++ List.drop (0 + (wv x).toArray.size) (#[Value.int IntKind.i64 0] ++ Array.replicate 64 (Value.int IntKind.u8 0)).toList) = wv x := by
  simp [wv_length hx2]

set_option maxHeartbeats 1000000 in
theorem flush_ok {w : World} {p : Nat} {d : DM} {B : Nat → Prop} (D0 : DAt w p d B) (ho : d.ops < 4611686018427387904) : Calls Try.prog 19 #[.pointer (some ⟨p, 0, none⟩)] w fun e w' =>
    e = .returned (.int .i64 d.flush.2) ∧ DAt w' p d.flush.1 B ∧ Fr B w w' := by
  obtain ⟨bp, cs, ks, D, hB⟩ := D0
  apply c19
  unfold t19
  refine call_ok (ready_ok D 0) ?_
  rintro _ w' ⟨rfl, hw'⟩
  replace hw' := hw'.symm
  subst hw'
  refine ⟨((d.ready 0, ()), ()), rfl, ite_ok (fun h => ?_) fun h => ?_⟩
  · have h : d.ready 0 ≠ 0 := by simpa using h
    simp only [DM.flush, if_pos h]
    exact ⟨rfl, ⟨bp, cs, ks, D, hB⟩, Fr.refl _ _⟩
  have hr : ¬ d.ready 0 ≠ 0 := by simpa using h
  refine call_ok (falls_ok D ho) ?_
  rintro _ w1 ⟨rfl, D1, F1⟩
  have hpB : ∀ k, oneB p k → B k := fun k h => by rw [show k = p from h]; exact hB p (.inl rfl)
  have F1B : Fr B w w1 := F1.mono fun _ _ h => hpB _ h
  refine ⟨((d.armed == 1, ()), ()), rfl, ite_ok (fun h => ?_) fun h => ?_⟩
  · have ha1 : d.armed = 1 := by simpa using h
    simp only [DM.flush, if_neg hr, if_pos ha1]
    refine nn_ok (D1.blk.ldS (o := 2) rfl (D1.blk.ld (o := 3) rfl (D1.blk.ld (o := 4) rfl ?_)))
    refine call_ok (drop_ok D1 ⟨ks.a, ks.n, ks.c⟩ d.keep d.torn d.cut D1.keep (fun hl a ha => (D.s3 hl a ha).2.1)) ?_
    rintro _ w9 ⟨rfl, D9, F9⟩
    refine ⟨(), rfl, rfl, ⟨bp, _, _, D9, ?_⟩, F1B.then F9 ?_⟩
    · rintro k (h | h | ⟨a, ha, h⟩ | ⟨h, _⟩)
      · exact hB k (.inl h)
      · exact hB k (.inr (.inl h))
      · cases ha
      · exact absurd rfl h
    · rintro k _ (h | h)
      · exact hB k (.inl h)
      · exact hB k (.inr (.inl h))
  have ha1 : ¬ d.armed = 1 := by simpa using h
  simp only [DM.flush, if_neg hr, if_neg ha1]
  refine nn_ok (D1.blk.ldS (o := 1) rfl (join_in ?_))
  have hpl := D1.plat.lt
  have hpp := D1.blk.lt
  obtain ⟨hcm, hcn⟩ := cache_small D1
  change d.cache.length ≤ 9223372036854775807 at hcm
  change cs.n = d.cache.length at hcn
  refine loop1_ok (c := .int .i64)
    (fun (i : Int) w' => ∃ (k : Nat) (pl : List (List UInt8)), i = (k : Int) ∧ k ≤ d.cache.length ∧ pl.length = d.plat.length ∧ (∀ x ∈ pl, x.length = 64) ∧
      Blk w' bp 72 (pl.flatMap bv) ∧ Fr (oneB bp) w1 w' ∧ flushL (d.cache.drop k) pl = flushL d.cache d.plat)
    (fun (i : Int) => (d.cache.length - i.toNat)) ?_ ⟨0, d.plat, rfl, Nat.zero_le _, rfl, D.len, D1.plat, Fr.refl _ _, rfl⟩
  rintro rec i w2 ⟨k, pl, rfl, hk, hpl2, hlen, BP, F2, hrest⟩ hrec
  have BD := D1.blk.fr F2 D1.s1
  refine ite_ok (fun hlt => ?_) (fun hge => ?_)
  · have hlt : k < d.cache.length := by simpa [hcn] using hlt
    obtain ⟨x, hx⟩ : ∃ x, d.cache[k]? = some x := ⟨_, List.getElem?_eq_getElem hlt⟩
    have hxm := List.mem_of_getElem? hx
    obtain ⟨hx1, hx2⟩ := D.cwf x hxm
    obtain ⟨g, cur, hg, _, BG, hgp, hgb, hrow⟩ := cache_row D1 hx
    have BG' := BG.fr F2 hgb
    rw [hg]
    refine join_in (idxB_ok (by simpa [hcn] using hlt) ?_)
    refine BG'.ldRow (cs := wv x) (wv_length hx2) (fun j v hj => ?_) ?_
    · have : j < 65 := by have := (List.getElem?_eq_some_iff.1 hj).1; rwa [wv_length hx2] at this
      rw [Nat.zero_add, hrow j this]; exact hj
    refine new_ok fun w3 m15 hm15 hs3 B15 F3 => ?_
    have hw2 := F2.size
    refine stRow_ok (t := 74) (by obtain ⟨i, hi, hs⟩ := info74; exact ⟨i, hi, by rw [hs]; simp [wv_length hx2]⟩) B15 (by simp [wv_length hx2]) (by simpa using wv_one) fun w4 B15' F4 _ => ?_
    rw [row_e13 hx2] at B15'
    refine drew_ok fun w5 F5 _ => ?_
    have F25 : Fr noB w2 w5 := (F3.then F4 fun y hy h => (show False by unfold oneB at h; omega)).then F5 fun _ _ h => h
    have BD5 := BD.fr F25 (fun h => h)
    have BP5 := BP.fr F25 (fun h => h)
    have B155 := B15'.fr F5 (fun h => h)
    refine nn_ok (BD5.ldS (o := 0) rfl (B155.ld (o := 0) rfl ?_))
    refine B155.ldRow (o := 1) (cs := bv x.2) (by rw [bv_length, hx2]) (fun j v hj => by rw [Nat.add_comm, wv_tail]; exact hj) ?_
    refine idxB_ok (by exact hx1) ?_
    obtain ⟨i, z, hi, hz, h1, h2, h3⟩ := row72
    have hfl : (pl.flatMap bv).length = pl.length * 64 := flat_length bv 64 (fun y hy => by rw [bv_length]; exact hlen y hy)
    have hfit : x.1 * 64 + 64 ≤ (pl.flatMap bv).length := by
      rw [hfl, ← Nat.succ_mul]; exact Nat.mul_le_mul_right _ (by omega)
    refine stRow_ok (t := 72) ⟨i, hi, by rw [h1]; simp [bv_length, hx2]⟩ BP5 (by simp only [List.size_toArray, bv_length, hx2]; omega) (by simpa using bv_one) fun w6 B6 F6 _ => ?_
    have hput := flat_put hlen (i := x.1) (by omega) x.2
    simp only [List.size_toArray, bv_length, hx2, Nat.zero_add] at B6
    rw [hput] at B6
    have F26 : Fr (oneB bp) w2 w6 := (F25.mono (fun _ _ h => h.elim)).then F6 (fun _ _ h => h)
    refine hrec _ _ ⟨k + 1, pl.set x.1 x.2, ?_, by omega, by simpa using hpl2, set_len hlen hx2, B6, F2.then F26 (fun _ _ h => h), ?_⟩ ?_
    · rw [wrap_ok (by omega) (by omega)]; omega
    · have hd : d.cache.drop k = x :: d.cache.drop (k + 1) := by
        rw [List.drop_eq_getElem_cons hlt]
        congr 1
        exact (List.getElem?_eq_some_iff.1 hx).2
      rw [hd] at hrest
      exact hrest
    · simp only [Int.toNat_natCast]
      rw [wrap_ok (by omega) (by omega)]
      omega
  · have hge : k = d.cache.length := by have : ¬ ((k : Int) < cs.n) := by simpa using hge
                                        omega
    subst hge
    rw [List.drop_length] at hrest
    have hrest : pl = flushL d.cache d.plat := hrest
    subst hrest
    refine nn_ok (BD.st (o := 1) rfl (by simp) fun w3 B3 F3 => ?_)
    have F : Fr B w w3 := (F1B.then F2 (fun k _ h => by rw [show k = bp from h]; exact hB bp (.inr (.inl rfl)))).then F3 fun k _ h => hpB k h
    refine ⟨rfl, ⟨bp, ⟨none, 0, 0⟩, ks, ?_, ?_⟩, F⟩
    · have h0 := D1.ops0
      exact {
        blk := by simpa [DM.cells, DM.fell, hpl2] using B3
        plat := BP.fr F3 (fun e => D.s1 e.symm)
        len := hlen
        pos := by show 0 < (flushL d.cache d.plat).length; rw [hpl2]; exact D.pos
        big := by show (flushL d.cache d.plat).length ≤ 4096; rw [hpl2]; exact D.big
        cache := World.ownsRow_nil _ _ _ _
        cwf := fun x hx => by simp at hx
        keep := (D1.keep.fr F2 (fun hl a ha hb => (D.s3 hl a ha).2.1 hb)).fr F3 (fun hl a ha hb => (D.s3 hl a ha).1 hb)
        arm0 := D1.arm0
        armU := D1.armU
        ops0 := h0
        s1 := D.s1
        s2 := fun a ha => by cases ha
        s3 := fun hl a ha => ⟨(D.s3 hl a ha).1, (D.s3 hl a ha).2.1, fun c hc => by cases hc⟩ }
    · rintro k (h | h | ⟨a, ha, h⟩ | h)
      · exact hB k (.inl h)
      · exact hB k (.inr (.inl h))
      · cases ha
      · exact hB k (.inr (.inr (.inr h)))
end Go.Proofs.Ytmklfedlifcoiaa
