/- The document's disk, said of the same plain model: its methods. -/
import Derived.Test.YtmklfedlifcoiaaRefA
import Derived.Test.YtmklfedlifcoiaaOwn
namespace Go.Proofs.Ytmklfedlifcoiaa
open Go.Lift

/-- the document's disk at block q, all of whose memory lies in the blocks of B -/
def RAt (w0 w : World) (q : Nat) (d : DM) (B : Nat → Prop) : Prop := ∃ ps cs ks t c, RDisk w0 w q d ps cs ks t c ∧ ∀ k, RDisk.blocks q ps cs k → B k
theorem RAt.fr {S B : Nat → Prop} {w0 w w' : World} {q : Nat} {d : DM} (D : RAt w0 w q d B) (f : Fr S w w') (hb : ∀ k, B k → ¬ S k) : RAt w0 w' q d B := by
  obtain ⟨ps, cs, ks, t, c, D, h⟩ := D
  exact ⟨ps, cs, ks, t, c, D.fr f fun k hk => hb k (h k hk), h⟩
theorem RAt.mono {B B' : Nat → Prop} {w0 w : World} {q : Nat} {d : DM} (D : RAt w0 w q d B) (hb : ∀ k, B k → B' k) : RAt w0 w q d B' := by
  obtain ⟨ps, cs, ks, t, c, D, h⟩ := D
  exact ⟨ps, cs, ks, t, c, D, fun k hk => hb k (h k hk)⟩
theorem u54 : Try.prog.underlying 54 = some (.slice 83) := by kernel_rfl
theorem row83 : ∃ i z, Try.prog.info? 83 = some i ∧ i.zero = some z ∧ i.size = 2 ∧ i.bytes = 24 ∧ z.cells.size = 2 := by
  have h : (Try.prog.info? 83).map (fun i => (i.size, i.bytes, i.zero.map (·.cells.size))) = some (2, 24, some 2) := by kernel_rfl
  cases hi : Try.prog.info? 83 with
  | none => rw [hi] at h; cases h
  | some i =>
    rw [hi] at h
    simp only [Option.map_some, Option.some.injEq, Prod.mk.injEq] at h
    cases hz : i.zero with
    | none => rw [hz] at h; simp at h
    | some z => rw [hz] at h; exact ⟨i, z, rfl, hz, h.1, h.2.1, by simpa using h.2.2⟩
theorem c83 : Try.prog.cellsOf 83 = 2 := by kernel_rfl

section
variable {w0 w : World} {q : Nat} {d : DM} {B : Nat → Prop}
/-- what the power's going does, where it was armed -/
theorem fell_lost {ps cs ks : Sl} {t c : Int} {d0 : DM} (D : RDisk w0 w q d0.fell ps cs ks t c) (hf : RdB w0 ks d0.keep ∧ t = d0.torn ∧ c = d0.cut) (F0 : Fr noB w0 w) (hps : ∀ k, inSl ps k → w0.heap.size ≤ k) :
    Calls Try.prog 44 #[.pointer (some ⟨q, 0, none⟩), .agg #[.slice ks.a ks.n ks.c, .int .i64 t, .int .i64 c]] w fun e w' =>
      e = .returned (.tuple #[]) ∧ RDisk w0 w' q (d0.fell.dropped d0.keep d0.torn d0.cut) ps ⟨none, 0, 0⟩ ks t c ∧ Fr (fun k => k = q ∨ inSl ps k) w w' := by
  obtain ⟨h1, rfl, rfl⟩ := hf
  exact lost_ok D ⟨ks.a, ks.n, ks.c⟩ d0.keep d0.torn d0.cut (h1.fr0 F0) fun hl a ha hs => by have := h1.low hl a ha; have := hps _ hs; omega

set_option maxHeartbeats 1000000 in
theorem rwrite_ok (D0 : RAt w0 w q d B) (F0 : Fr noB w0 w) (hB0 : ∀ k, B k → w0.heap.size ≤ k) (i : Int) (s : ByteArray) (hc : d.cache.length < 1000000) (ho : d.ops < 4611686018427387904) :
    Calls Try.prog 37 #[.pointer (some ⟨q, 0, none⟩), .int .i64 i, .string s] w fun e w' =>
      e = .returned (.int .i64 (d.write i s.data.toList).2) ∧ RAt w0 w' q (d.write i s.data.toList).1 (Grow B w w') ∧ Fr B w w' := by
  obtain ⟨ps, cs, ks, t, c, D, hB⟩ := D0
  have same : RAt w0 w q d (Grow B w w) ∧ Fr B w w := ⟨⟨ps, cs, ks, t, c, D, fun k hk => .inl (hB k hk)⟩, Fr.refl _ _⟩
  have hpn := own_n D.plat
  have hsl : s.data.toList.length = s.size := by simp
  apply c37
  unfold t37
  refine nn_ok (D.blk.ld (o := 6) rfl (ite_ok (fun h => ?_) fun h => ?_))
  · have hr : d.ready i = 190 := by simp [DM.ready, h]
    have hw : d.write i s.data.toList = (d, 190) := by simp [DM.write, hr]
    rw [hw]
    exact ⟨rfl, same⟩
  have hr : d.ready i = if i < 0 ∨ (d.plat.length : Int) ≤ i then 191 else 0 := by simp [DM.ready, h]
  refine join1_ok (c := .bool) (fun (b : Bool) w' => b = decide (i < 0 ∨ (d.plat.length : Int) ≤ i) ∧ w' = w) (fun kj hkj => ?_) ?_
  · refine ite_ok (fun h => hkj _ _ ⟨?_, rfl⟩) fun h => nn_ok (D.blk.ldS (o := 0) rfl (hkj _ _ ⟨?_, rfl⟩))
    · have h : i < 0 := by simpa using h
      rw [decide_eq_true (.inl h)]
    · have h : ¬ i < 0 := by simpa using h
      show decide ((ps.n : Int) ≤ i) = _
      rw [hpn]
      simp [h]
  rintro b w' ⟨hb, hw⟩
  replace hw := hw.symm
  subst hw
  refine ite_ok (fun h => ?_) fun h => ?_
  · rw [h] at hb
    rw [if_pos (of_decide_eq_true hb.symm)] at hr
    rw [write_refused (by rw [hr]; decide), hr]
    exact ⟨rfl, same⟩
  rw [h] at hb
  have hin := of_decide_eq_false hb.symm
  rw [if_neg hin] at hr
  have hr0 : ¬ d.ready i ≠ 0 := by rw [hr]; simp
  refine ite_ok (fun h => ?_) fun h => ?_
  · have h : s.data.toList.length ≠ 64 := by rw [hsl]; intro e; rw [e] at h; simp at h
    simp only [DM.write, if_neg hr0, if_pos h]
    exact ⟨rfl, same⟩
  have hs64 : s.size = 64 := by have h : (s.size : Int) = 64 := by simpa using h
                                omega
  have hs : ¬ s.data.toList.length ≠ 64 := by rw [hsl]; omega
  obtain ⟨n, rfl⟩ := Int.eq_ofNat_of_zero_le (show 0 ≤ i by omega)
  have hbs : bs s.data.toList = s := ba_ext (bs_list _)
  refine nn_ok (D.blk.ldS (o := 1) rfl (assume_ok (by rw [c83]; rfl) (new_ok fun w1 m11 hm11 hs1 B11 F1 => ?_)))
  have D1 := D.fr F1 (fun _ _ h => h)
  obtain ⟨i0, z, hi, hz, hz1, hz2, hz3⟩ := row83
  refine append_ok u54 hi hz hz1 hz2 hz3 (by omega) (s := ⟨cs.a, cs.n, cs.c⟩) D1.cache (m := 1) (news := wr (n, s.data.toList)) rfl (B11.held fun j v hj => by
    rw [Nat.zero_add]
    simpa [wr, hbs] using hj) (fun v hv => by simp [wr] at hv; rcases hv with rfl | rfl <;> rfl) (by unfold maxLen; omega) (by omega) ?_
  intro cs' w2 hown F2 hnew
  have hsd := D.s2
  have BD2 := D1.blk.fr F2 (by rintro ⟨a, ha, hb⟩; exact (D.s2 a ha).1 hb)
  refine nn_ok (BD2.st (o := 1) rfl (by simp) fun w3 BD3 F3 => ?_)
  have hqlt := D.blk.lt
  have hplt := own_lt D.plat
  have hcs' : ∀ a, cs'.a = some a → cs.a = some a ∨ (w.heap.size ≤ a.block ∧ a.block < w2.heap.size) := fun a ha => (hnew a ha).imp id fun h => ⟨Nat.le_trans F1.size h.1, h.2⟩
  have s2' : ∀ a, cs'.a = some a → a.block ≠ q ∧ ∀ b, ps.a = some b → a.block ≠ b.block := fun a ha => by
    rcases hcs' a ha with h | h
    · exact D.s2 a h
    · exact ⟨by omega, fun b hb => by have := hplt b hb; omega⟩
  have D3 : RDisk w0 w3 q (d.wrote n s.data.toList) ps cs' ks t c := {
    blk := by simpa [DM.wrote] using BD3
    plat := own_cell (own_cell D1.plat F2 (own_blk D1.plat fun a ha => by rintro ⟨b, hb, e⟩; exact (D.s2 b hb).2 a ha e)) F3 (own_blk D1.plat fun a ha e => D.s1 a ha e)
    cache := by
      have := own_cell hown F3 (own_blk hown fun a ha e => (s2' a ha).1 e)
      simpa [DM.wrote] using this
    len := D.len
    cwf := fun x hx => by
      rcases List.mem_append.1 hx with hx | hx
      · exact D.cwf x hx
      · rw [List.mem_singleton.1 hx]
        exact ⟨by show n < d.plat.length; omega, by rw [hsl]; exact hs64⟩
    pos := D.pos
    big := D.big
    fall := D.fall
    arm0 := D.arm0
    armU := D.armU
    ops0 := D.ops0
    s1 := D.s1
    s2 := s2' }
  have F03 : Fr B w w3 := ((F1.mono (fun _ _ h => h.elim)).then F2 (fun k _ h => by obtain ⟨a, ha, e⟩ := h; exact hB k (.inr (.inr ⟨a, ha, e⟩)))).then F3 (fun _ _ h => by rw [show _ = q from h]; exact hB q (.inl rfl))
  refine call_ok (hit_ok D3 (by exact ho)) ?_
  rintro _ w4 ⟨rfl, D4, F4⟩
  refine ⟨((d.armed == 1, ()), ()), rfl, ?_⟩
  have F04 : Fr B w w4 := F03.then F4 (fun _ _ h => by rw [show _ = q from h]; exact hB q (.inl rfl))
  have hblk : ∀ w5 : World, w2.heap.size ≤ w5.heap.size → ∀ k, RDisk.blocks q ps cs' k → Grow B w w5 k := by
    rintro w5 h5 k (h | h | ⟨a, ha, h⟩)
    · exact .inl (hB k (.inl h))
    · exact .inl (hB k (.inr (.inl h)))
    · rcases hcs' a ha with h' | h'
      · exact .inl (hB k (.inr (.inr ⟨a, h', h⟩)))
      · exact .inr ⟨by omega, by omega⟩
  refine ite_ok (fun h => ?_) fun h => ?_
  · have ha1 : d.armed = 1 := by simpa using h
    simp only [DM.write, if_neg hr0, if_neg hs, if_pos ha1, Int.toNat_natCast]
    refine nn_ok (D4.blk.ldS (o := 3) rfl (D4.blk.ld (o := 4) rfl (D4.blk.ld (o := 5) rfl ?_)))
    have F0' : Fr noB w0 w4 := F0.then F04 (fun k hk h => by have := hB0 k h; omega)
    refine call_ok (fell_lost (d0 := d.wrote n s.data.toList) D4 (D.fall (by omega)) F0' (fun k ⟨a, ha, e⟩ => hB0 k (hB k (.inr (.inl ⟨a, ha, e⟩))))) ?_
    rintro _ w5 ⟨rfl, D5, F5⟩
    refine ⟨(), rfl, rfl, ⟨ps, _, ks, t, c, D5, ?_⟩, F04.then F5 ?_⟩
    · rintro k (h | h | ⟨a, ha, h⟩)
      · exact .inl (hB k (.inl h))
      · exact .inl (hB k (.inr (.inl h)))
      · cases ha
    · rintro k _ (h | h)
      · exact hB k (.inl h)
      · exact hB k (.inr (.inl h))
  · have ha1 : ¬ d.armed = 1 := by simpa using h
    simp only [DM.write, if_neg hr0, if_neg hs, if_neg ha1, Int.toNat_natCast]
    exact ⟨rfl, ⟨ps, cs', ks, t, c, D4, hblk w4 (Nat.le_trans F3.size F4.size)⟩, F04⟩

theorem ready0 (hp : 0 < d.plat.length) : d.ready 0 = if d.dead then 190 else 0 := by
  unfold DM.ready
  split
  · rfl
  · rw [if_neg (by omega)]

set_option maxHeartbeats 1000000 in
theorem rflush_ok (D0 : RAt w0 w q d B) (F0 : Fr noB w0 w) (hB0 : ∀ k, B k → w0.heap.size ≤ k) (ho : d.ops < 4611686018427387904) :
    Calls Try.prog 38 #[.pointer (some ⟨q, 0, none⟩)] w fun e w' =>
      e = .returned (.int .i64 d.flush.2) ∧ RAt w0 w' q d.flush.1 B ∧ Fr B w w' := by
  obtain ⟨ps, cs, ks, t, c, D, hB⟩ := D0
  have hr := ready0 D.pos
  apply c38
  unfold t38
  refine nn_ok (D.blk.ld (o := 6) rfl (ite_ok (fun h => ?_) fun h => ?_))
  · have hw : d.flush = (d, 190) := by simp [DM.flush, hr, h]
    rw [hw]
    exact ⟨rfl, ⟨ps, cs, ks, t, c, D, hB⟩, Fr.refl _ _⟩
  have hr0 : ¬ d.ready 0 ≠ 0 := by rw [hr, h]; simp
  refine call_ok (hit_ok D ho) ?_
  rintro _ w4 ⟨rfl, D4, F4⟩
  refine ⟨((d.armed == 1, ()), ()), rfl, ?_⟩
  have F04 : Fr B w w4 := F4.mono (fun _ _ h => by rw [show _ = q from h]; exact hB q (.inl rfl))
  refine ite_ok (fun h => ?_) fun h => ?_
  · have ha1 : d.armed = 1 := by simpa using h
    simp only [DM.flush, if_neg hr0, if_pos ha1]
    refine nn_ok (D4.blk.ldS (o := 3) rfl (D4.blk.ld (o := 4) rfl (D4.blk.ld (o := 5) rfl ?_)))
    have F0' : Fr noB w0 w4 := F0.then F04 (fun k hk h => by have := hB0 k h; omega)
    refine call_ok (fell_lost (d0 := d) D4 (D.fall (by omega)) F0' (fun k ⟨a, ha, e⟩ => hB0 k (hB k (.inr (.inl ⟨a, ha, e⟩))))) ?_
    rintro _ w5 ⟨rfl, D5, F5⟩
    refine ⟨(), rfl, rfl, ⟨ps, _, ks, t, c, D5, ?_⟩, F04.then F5 ?_⟩
    · rintro k (h | h | ⟨a, ha, h⟩)
      · exact hB k (.inl h)
      · exact hB k (.inr (.inl h))
      · cases ha
    · rintro k _ (h | h)
      · exact hB k (.inl h)
      · exact hB k (.inr (.inl h))
  have ha1 : ¬ d.armed = 1 := by simpa using h
  simp only [DM.flush, if_neg hr0, if_neg ha1]
  have hcn := own_n D.cache
  have hcl : d.cache.length ≤ 9223372036854775807 := by
    rcases D.cache.2 with ⟨_, h⟩ | ⟨_, _, _, _, _, _, h1, h2, _⟩
    · omega
    · unfold maxLen at h2; omega
  have hpq : ¬ inSl ps q := by rintro ⟨a, ha, hb⟩; exact D.s1 a ha hb
  refine join0_ok (fun w' => w'.ownsRow 0 9 1 (.slice ps.a ps.n ps.c) d.plat.length ((flushL d.cache d.plat).map sv) ∧ Fr (inSl ps) w4 w') (fun kend hkend => ?_) (fun w2 ⟨hown, F2⟩ => ?_)
  rotate_left
  · have BD := D4.blk.fr F2 hpq
    refine nn_ok (BD.st (o := 1) rfl (by simp) fun w3 B3 F3 => ?_)
    have hl := flushL_length d.cache d.plat
    refine ⟨rfl, ⟨ps, ⟨none, 0, 0⟩, ks, t, c, ?_, ?_⟩, (F04.then F2 fun k _ ⟨a, ha, e⟩ => hB k (.inr (.inl ⟨a, ha, e⟩))).then F3 (fun _ _ h => by rw [show _ = q from h]; exact hB q (.inl rfl))⟩
    · exact {
        blk := by simpa using B3
        plat := by
          show w3.ownsRow 0 9 1 _ (flushL d.cache d.plat).length _
          rw [hl]
          exact own_cell hown F3 (own_blk hown fun a ha e => D.s1 a ha e)
        cache := World.ownsRow_nil _ _ _ _
        len := flushL_len d.cache d.plat (fun x hx => (D.cwf x hx).2) D.len
        cwf := fun x hx => by simp at hx
        pos := by show 0 < (flushL d.cache d.plat).length; rw [hl]; exact D.pos
        big := by show (flushL d.cache d.plat).length ≤ 4096; rw [hl]; exact D.big
        fall := D4.fall
        arm0 := D4.arm0
        armU := D4.armU
        ops0 := D4.ops0
        s1 := D.s1
        s2 := fun a ha => by cases ha }
    · rintro k (h | h | ⟨a, ha, h⟩)
      · exact hB k (.inl h)
      · exact hB k (.inr (.inl h))
      · cases ha
  refine loop1_ok (c := .int .i64)
    (fun (i : Int) w' => ∃ (k : Nat) (pl : List (List UInt8)), i = (k : Int) ∧ k ≤ d.cache.length ∧ pl.length = d.plat.length ∧
      w'.ownsRow 0 9 1 (.slice ps.a ps.n ps.c) d.plat.length (pl.map sv) ∧ Fr (inSl ps) w4 w' ∧ flushL (d.cache.drop k) pl = flushL d.cache d.plat)
    (fun (i : Int) => (d.cache.length - i.toNat)) ?_ ⟨0, d.plat, rfl, Nat.zero_le _, rfl, D4.plat, Fr.refl _ _, rfl⟩
  rintro rec i w2 ⟨k, pl, rfl, hk, hpl2, hown, F2, hrest⟩ hrec
  have BD := D4.blk.fr F2 hpq
  refine nn_ok (BD.ldS (o := 1) rfl (ite_ok (fun hlt => ?_) (fun hge => ?_)))
  rotate_left
  · have hge : k = d.cache.length := by simp only [decide_eq_false_iff_not] at hge; omega
    subst hge
    rw [List.drop_length] at hrest
    have hrest : pl = flushL d.cache d.plat := hrest
    subst hrest
    exact hkend _ ⟨hown, F2⟩
  have hlt : k < d.cache.length := by simp only [decide_eq_true_eq] at hlt; omega
  obtain ⟨x, hx⟩ : ∃ x, d.cache[k]? = some x := ⟨_, List.getElem?_eq_getElem hlt⟩
  obtain ⟨hx1, hx2⟩ := D.cwf x (List.mem_of_getElem? hx)
  have D2c : w2.ownsRow 0 83 2 (.slice cs.a cs.n cs.c) d.cache.length (d.cache.flatMap wr) := own_cell D4.cache F2 (own_blk D4.cache fun a ha => by
    rintro ⟨b, hb, e⟩; exact (D.s2 a ha).2 b hb e.symm)
  refine join0_ok (fun w' => w'.ownsRow 0 9 1 (.slice ps.a ps.n ps.c) d.plat.length ((pl.set x.1 x.2).map sv) ∧ Fr (inSl ps) w4 w') (fun k10 hk10 => ?_) (fun w3 ⟨h1, h2⟩ => ?_)
  rotate_left
  · refine hrec _ _ ⟨k + 1, pl.set x.1 x.2, ?_, by omega, by rw [List.length_set]; exact hpl2, h1, h2, ?_⟩ ?_
    · rw [wrap_ok (by omega) (by omega)]; omega
    · have hd : d.cache.drop k = x :: d.cache.drop (k + 1) := by
        rw [List.drop_eq_getElem_cons hlt]
        congr 1
        exact (List.getElem?_eq_some_iff.1 hx).2
      rw [hd] at hrest
      exact hrest
    · rw [wrap_ok (by omega) (by omega), Int.toNat_natCast]; omega
  refine drew_ok fun w6 F6 _ => ?_
  have hown6 := own_cell hown F6 (fun _ _ h => h)
  have BD6 := BD.fr F6 (fun h => h)
  obtain ⟨g, cur, hg, _, BG, hcur, _⟩ := own_get (own_cell D2c F6 (fun _ _ h => h)) (by omega)
  have hrow : ∀ j, j < 2 → cur[k * 2 + j]? = (wr x)[j]? := fun j hj => by
    have h1 := flat_at wr 2 (fun y _ => wr_len y) hx j hj
    have h2 : j < (wr x).length := by rw [wr_len]; exact hj
    rw [List.getElem?_eq_getElem h2] at h1 ⊢
    exact hcur _ _ h1
  obtain ⟨gp, curp, hgp, hpn, BP, hcurp, hsetp⟩ := own_get hown6 D.pos
  refine nn_ok (BD6.ldS (o := 0) rfl (nn_ok (BD6.ldS (o := 1) rfl ?_)))
  rw [hg]
  refine idxB_ok (by show k < cs.n; omega) (BG.ld (o := 0 + k * 2 + 0) (by rw [Nat.zero_add]; exact (hrow 0 (by omega)).trans rfl) (nn_ok (BD6.ldS (o := 1) rfl ?_)))
  rw [hg]
  refine idxB_ok (by show k < cs.n; omega) (BG.ld (o := 0 + k * 2 + 1) (by rw [Nat.zero_add]; exact (hrow 1 (by omega)).trans rfl) ?_)
  rw [hgp]
  refine idxB_ok (by show x.1 < ps.n; omega) (BP.st (o := 0 + x.1 * 1) rfl ?_ fun w7 B7 F7 => hk10 _ ⟨?_, ?_⟩)
  · obtain ⟨old, hold⟩ : ∃ old, pl[x.1]? = some old := ⟨_, List.getElem?_eq_getElem (by omega)⟩
    have h := hcurp x.1 (sv old) (by simp [hold])
    have := (List.getElem?_eq_some_iff.1 h).1
    omega
  · have := hsetp w7 (0 + x.1 * 1) (.string (bs x.2)) (by simp; omega) B7
    rw [hgp] at this ⊢
    have e : (pl.set x.1 x.2).map sv = (pl.map sv).set (0 + x.1 * 1) (.string (bs x.2)) := by
      rw [Nat.zero_add, Nat.mul_one, List.map_set]; rfl
    rw [e]
    exact this
  · refine (F2.then F6 (fun _ _ h => h.elim)).then F7 fun y _ h => ?_
    rw [show y = gp from h]
    exact ⟨_, hgp, rfl⟩

theorem rarm_ok (D0 : RAt w0 w q d B) (at' : Int) (hat : at' ≤ 9223372036854775807) (f : Sl) (keep : List Bool) (torn cut : Int) (hf : RdB w0 f keep) :
    Calls Try.prog 39 #[.pointer (some ⟨q, 0, none⟩), .int .i64 at', .agg #[.slice f.a f.n f.c, .int .i64 torn, .int .i64 cut]] w fun e w' =>
      e = .returned (.int .i64 (d.arm at' keep torn cut).2) ∧ RAt w0 w' q (d.arm at' keep torn cut).1 B ∧ Fr B w w' := by
  obtain ⟨ps, cs, ks, t, c, D, hB⟩ := D0
  have hr := ready0 D.pos
  have hqlt := D.blk.lt
  apply c39
  unfold t39
  refine new_ok fun w1 m5 hm5 hs1 B5 F1 => ?_
  have D1 := D.fr F1 (fun _ _ h => h)
  have F1B : Fr B w w1 := F1.mono fun _ _ h => h.elim
  refine nn_ok (D1.blk.ld (o := 6) rfl (ite_ok (fun h => ?_) fun h => ?_))
  · have hw : d.arm at' keep torn cut = (d, 190) := by simp [DM.arm, hr, h]
    rw [hw]
    exact ⟨rfl, ⟨ps, cs, ks, t, c, D1, hB⟩, F1B⟩
  have hr0 : ¬ d.ready 0 ≠ 0 := by rw [hr, h]; simp
  refine ite_ok (fun h => ?_) fun h => ?_
  · have h : at' < 0 := by simpa using h
    simp only [DM.arm, if_neg hr0, if_pos h]
    exact ⟨rfl, ⟨ps, cs, ks, t, c, D1, hB⟩, F1B⟩
  have h : ¬ at' < 0 := by simpa using h
  simp only [DM.arm, if_neg hr0, if_neg h]
  have hmq : m5 ≠ q := by omega
  refine nn_ok (D1.blk.st (o := 2) rfl (by simp) fun w2 B2 F2 => ?_)
  have B52 := B5.fr F2 (fun e => hmq e)
  refine B52.ldS (o := 0) rfl (B52.ld (o := 1) rfl (B52.ld (o := 2) rfl (nn_ok ?_)))
  refine B2.st (o := 3) rfl (by simp) fun w3 B3 F3 => B3.st (o := 4) rfl (by simp) fun w4 B4 F4 => B4.st (o := 5) rfl (by simp) fun w5 B5' F5 => ?_
  have F15 : Fr (oneB q) w1 w5 := ((F2.then F3 (fun _ _ h => h)).then F4 (fun _ _ h => h)).then F5 (fun _ _ h => h)
  refine ⟨rfl, ⟨ps, cs, f, torn, cut, ?_, hB⟩, F1B.then F15 fun _ _ h => by rw [show _ = q from h]; exact hB q (.inl rfl)⟩
  exact D1.upd (d' := { d with armed := at', keep := keep, torn := torn, cut := cut }) (by simpa using B5') F15 rfl rfl (fun _ => ⟨hf, rfl, rfl⟩) (by show 0 ≤ at'; omega) hat D.ops0

theorem rcrash_ok (D0 : RAt w0 w q d B) (F0 : Fr noB w0 w) (hB0 : ∀ k, B k → w0.heap.size ≤ k) (f : Sl) (keep : List Bool) (torn cut : Int) (hf : RdB w0 f keep) :
    Calls Try.prog 40 #[.pointer (some ⟨q, 0, none⟩), .agg #[.slice f.a f.n f.c, .int .i64 torn, .int .i64 cut]] w fun e w' =>
      e = .returned (.int .i64 (d.ready 0)) ∧ RAt w0 w' q (if d.ready 0 ≠ 0 then d else d.dropped keep torn cut) B ∧ Fr B w w' := by
  obtain ⟨ps, cs, ks, t, c, D, hB⟩ := D0
  have hr := ready0 D.pos
  apply c40
  unfold t40
  refine new_ok fun w1 m4 hm4 hs1 B4 F1 => ?_
  have D1 := D.fr F1 (fun _ _ h => h)
  have F1B : Fr B w w1 := F1.mono fun _ _ h => h.elim
  refine nn_ok (D1.blk.ld (o := 6) rfl (ite_ok (fun h => ?_) fun h => ?_))
  · have h' : d.ready 0 = 190 := by rw [hr, h]; rfl
    rw [h', if_pos (by decide)]
    exact ⟨rfl, ⟨ps, cs, ks, t, c, D1, hB⟩, F1B⟩
  have h' : d.ready 0 = 0 := by rw [hr, h]; rfl
  rw [h', if_neg (by decide)]
  refine B4.ldS (o := 0) rfl (B4.ld (o := 1) rfl (B4.ld (o := 2) rfl ?_))
  have F01 := F0.then F1 fun _ _ h => h
  refine call_ok (lost_ok D1 ⟨f.a, f.n, f.c⟩ keep torn cut (hf.fr0 F01) fun hl a ha ⟨b, hb, e⟩ => by have := hf.low hl a ha; have := hB0 _ (hB a.block (.inr (.inl ⟨b, hb, e⟩))); omega) ?_
  rintro _ w5 ⟨rfl, D5, F5⟩
  refine ⟨(), rfl, rfl, ⟨ps, _, ks, t, c, D5, ?_⟩, F1B.then F5 ?_⟩
  · rintro k (h | h | ⟨a, ha, h⟩)
    · exact hB k (.inl h)
    · exact hB k (.inr (.inl h))
    · cases ha
  · rintro k _ (h | h)
    · exact hB k (.inl h)
    · exact hB k (.inr (.inl h))

theorem rboot_ok (D0 : RAt w0 w q d B) : Calls Try.prog 41 #[.pointer (some ⟨q, 0, none⟩)] w fun e w' =>
    e = .returned (.int .i64 0) ∧ RAt w0 w' q { d with dead := false } B ∧ Fr B w w' := by
  obtain ⟨ps, cs, ks, t, c, D, hB⟩ := D0
  apply c41
  unfold t41
  refine nn_ok (D.blk.st (o := 6) rfl (by simp) fun w1 B1 F1 => ⟨rfl, ⟨ps, cs, ks, t, c, ?_, hB⟩, F1.mono fun _ _ h => by rw [show _ = q from h]; exact hB q (.inl rfl)⟩)
  exact D.upd (d' := { d with dead := false }) (by simpa using B1) F1 rfl rfl D.fall D.arm0 D.armU D.ops0
end
end Go.Proofs.Ytmklfedlifcoiaa
