/- The document's disk, said of the same plain model: hit, lost. -/
import Derived.Test.YtmklfedlifcoiaaTreeB
import Derived.Test.YtmklfedlifcoiaaFlushes
namespace Go.Proofs.Ytmklfedlifcoiaa
open Go.Lift

def sv (r : List UInt8) : Value := .string (bs r)
def wr (x : Nat × List UInt8) : List Value := [.int .i64 (x.1 : Int), .string (bs x.2)]
theorem wr_len (x : Nat × List UInt8) : (wr x).length = 2 := rfl
theorem sv_one {l : List (List UInt8)} : ∀ v ∈ l.map sv, v.oneCell' = true := fun v hv => by
  obtain ⟨b, _, rfl⟩ := List.mem_map.1 hv
  rfl

/-- a row of one's own, opened -/
theorem own_get {w : World} {e sz n : Nat} {s : Sl} {xs : List Value} (h : w.ownsRow 0 e sz (.slice s.a s.n s.c) n xs) (hn : 0 < n) :
    ∃ (g : Nat) (cur : List Value), s.a = some ⟨g, 0, none⟩ ∧ s.n = n ∧ Blk w g e cur ∧ (∀ (j : Nat) (v : Value), xs[j]? = some v → cur[j]? = some v) ∧
      ∀ (w' : World) (j : Nat) (v : Value), j < xs.length → Blk w' g e (cur.set j v) → w'.ownsRow 0 e sz (.slice s.a s.n s.c) n (xs.set j v) := by
  rcases h.2 with ⟨_, h0⟩ | ⟨g, cap, cur, hv, h0, hg, hnc, hcm, hsz, htake⟩
  · omega
  · simp only [Value.slice.injEq] at hv
    obtain ⟨ha, hn', hc⟩ := hv
    refine ⟨g, cur.toList, ha, hn', by unfold Blk; simpa using hg, fun j v hj => ?_, fun w' j v hj hB => ?_⟩
    · rw [← htake, List.getElem?_take] at hj
      split at hj
      · exact hj
      · cases hj
    · refine ⟨by rw [List.length_set]; exact h.1, .inr ⟨g, cap, (cur.toList.set j v).toArray, by rw [ha, hn', hc], h0, by unfold Blk at hB; simpa using hB, hnc, hcm, by simpa using hsz, ?_⟩⟩
      simp only [List.take_set]
      rw [htake]
theorem own_n {w : World} {e sz n : Nat} {s : Sl} {xs : List Value} (h : w.ownsRow 0 e sz (.slice s.a s.n s.c) n xs) : s.n = n := by
  rcases h.2 with ⟨hv, h0⟩ | ⟨g, cap, cur, hv, _⟩
  · simp only [Value.slice.injEq] at hv; omega
  · simp only [Value.slice.injEq] at hv; exact hv.2.1
theorem own_blk {w : World} {e sz n : Nat} {s : Sl} {xs : List Value} (_ : w.ownsRow 0 e sz (.slice s.a s.n s.c) n xs) {S : Nat → Prop} (hs : ∀ a, s.a = some a → ¬ S a.block) : ∀ b, (Value.slice s.a s.n s.c).ownBlock = some b → ¬ S b := fun b hb => by
  simp only [Value.ownBlock] at hb
  cases ha : s.a with
  | none => simp [ha] at hb
  | some a => simp [ha] at hb; subst hb; exact hs a ha
theorem own_lt {w : World} {e sz n : Nat} {s : Sl} {xs : List Value} (h : w.ownsRow 0 e sz (.slice s.a s.n s.c) n xs) : ∀ a, s.a = some a → a.block < w.heap.size := fun a ha => by
  rcases h.2 with ⟨hv, h0⟩ | ⟨g, cap, cur, hv, _, hg, _⟩
  · simp only [Value.slice.injEq] at hv; rw [hv.1] at ha; cases ha
  · simp only [Value.slice.injEq] at hv
    rw [hv.1] at ha
    cases ha
    exact (Array.getElem?_eq_some_iff.1 hg).1

structure RDisk (w0 w : World) (q : Nat) (d : DM) (ps cs ks : Sl) (t c : Int) : Prop where
  blk : Blk w q 56 [.slice ps.a ps.n ps.c, .slice cs.a cs.n cs.c, .int .i64 d.armed, .slice ks.a ks.n ks.c, .int .i64 t, .int .i64 c, .bool d.dead, .int .i64 d.ops]
  plat : w.ownsRow 0 9 1 (.slice ps.a ps.n ps.c) d.plat.length (d.plat.map sv)
  cache : w.ownsRow 0 83 2 (.slice cs.a cs.n cs.c) d.cache.length (d.cache.flatMap wr)
  len : ∀ s ∈ d.plat, s.length = 64
  cwf : ∀ x ∈ d.cache, x.1 < d.plat.length ∧ x.2.length = 64
  pos : 0 < d.plat.length
  big : d.plat.length ≤ 4096
  fall : d.armed ≠ 0 → RdB w0 ks d.keep ∧ t = d.torn ∧ c = d.cut
  arm0 : 0 ≤ d.armed
  armU : d.armed ≤ 9223372036854775807
  ops0 : 0 ≤ d.ops
  s1 : ∀ a, ps.a = some a → a.block ≠ q
  s2 : ∀ a, cs.a = some a → a.block ≠ q ∧ ∀ b, ps.a = some b → a.block ≠ b.block

section
variable {w0 w : World} {q : Nat} {d : DM} {ps cs ks : Sl} {t c : Int}
def RDisk.blocks (q : Nat) (ps cs : Sl) (k : Nat) : Prop := k = q ∨ (∃ a, ps.a = some a ∧ a.block = k) ∨ (∃ a, cs.a = some a ∧ a.block = k)
theorem RDisk.fr {S : Nat → Prop} {w' : World} (D : RDisk w0 w q d ps cs ks t c) (f : Fr S w w') (hb : ∀ k, RDisk.blocks q ps cs k → ¬ S k) : RDisk w0 w' q d ps cs ks t c :=
  { D with
    blk := D.blk.fr f (hb _ (.inl rfl))
    plat := own_cell D.plat f (own_blk D.plat fun a ha => hb _ (.inr (.inl ⟨a, ha, rfl⟩)))
    cache := own_cell D.cache f (own_blk D.cache fun a ha => hb _ (.inr (.inr ⟨a, ha, rfl⟩))) }
/-- the struct is written, nothing else -/
theorem RDisk.upd {w' : World} {d' : DM} {ks' : Sl} {t' c' : Int} (D : RDisk w0 w q d ps cs ks t c)
    (hb : Blk w' q 56 [.slice ps.a ps.n ps.c, .slice cs.a cs.n cs.c, .int .i64 d'.armed, .slice ks'.a ks'.n ks'.c, .int .i64 t', .int .i64 c', .bool d'.dead, .int .i64 d'.ops]) (f : Fr (oneB q) w w')
    (e1 : d'.plat = d.plat) (e2 : d'.cache = d.cache) (h0 : d'.armed ≠ 0 → RdB w0 ks' d'.keep ∧ t' = d'.torn ∧ c' = d'.cut) (h1 : 0 ≤ d'.armed) (h2 : d'.armed ≤ 9223372036854775807) (h3 : 0 ≤ d'.ops) : RDisk w0 w' q d' ps cs ks' t' c' where
  blk := hb
  plat := e1 ▸ own_cell D.plat f (own_blk D.plat fun a ha e => D.s1 a ha e)
  cache := e2 ▸ own_cell D.cache f (own_blk D.cache fun a ha e => (D.s2 a ha).1 e)
  len := e1 ▸ D.len
  cwf := e1 ▸ e2 ▸ D.cwf
  pos := e1 ▸ D.pos
  big := e1 ▸ D.big
  fall := h0
  arm0 := h1
  armU := h2
  ops0 := h3
  s1 := D.s1
  s2 := D.s2

theorem hit_ok (D : RDisk w0 w q d ps cs ks t c) (ho : d.ops < 4611686018427387904) : Calls Try.prog 43 #[.pointer (some ⟨q, 0, none⟩)] w fun e w' =>
    e = .returned (.bool (d.armed == 1)) ∧ RDisk w0 w' q d.fell ps cs ks t c ∧ Fr (oneB q) w w' := by
  have h0 := D.ops0
  have ha := D.arm0
  have hu := D.armU
  apply c43
  unfold t43
  refine nn_ok (D.blk.ld (o := 7) rfl (nn_ok (D.blk.st (o := 7) rfl (by simp) fun w1 B1 F1 => ?_)))
  rw [wrap_ok (by omega) (by omega)] at B1
  refine nn_ok (B1.ld (o := 2) rfl ?_)
  refine ite_ok (fun h => ?_) fun h => ?_
  · have h : 0 < d.armed := by simpa using h
    refine nn_ok (B1.ld (o := 2) rfl (nn_ok (B1.st (o := 2) rfl (by simp) fun w2 B2 F2 => ?_)))
    rw [wrap_ok (by omega) (by omega)] at B2
    refine nn_ok (B2.ld (o := 2) rfl ?_)
    have F := F1.then F2 (fun x _ h => h)
    have hne : d.armed ≠ 0 := by omega
    refine ⟨by rw [show (d.armed - 1 == 0) = (d.armed == 1) by rw [Bool.eq_iff_iff]; simp; omega], D.upd (d' := d.fell) ?_ F rfl rfl ?_ ?_ ?_ ?_, F⟩
    · simpa [DM.fell, hne] using B2
    · intro _; exact D.fall hne
    all_goals simp only [DM.fell, if_neg hne] <;> omega
  · have h : d.armed = 0 := by have : ¬ 0 < d.armed := by simpa using h
                               omega
    refine ⟨by simp [h], D.upd (d' := d.fell) ?_ F1 rfl rfl ?_ ?_ ?_ ?_, F1⟩
    · simpa [DM.fell, h] using B1
    · intro h'; exact absurd (show (if d.armed = 0 then (0 : Int) else d.armed - 1) = 0 by rw [if_pos h]) h'
    all_goals simp only [DM.fell, h, if_true] <;> omega

def inSl (s : Sl) (k : Nat) : Prop := ∃ a, s.a = some a ∧ a.block = k
theorem cat_bytes (s o : List UInt8) (n : Nat) : (bs s).extract 0 n ++ (bs o).extract n (bs o).size = bs (s.take n ++ o.drop n) := by
  apply ba_ext
  rw [ByteArray.data_append, Array.toList_append, extract_list, extract_list, bs_list, bs_list, bs_list, bs_size]
  rw [Nat.sub_zero, List.drop_zero, List.take_of_length_le (l := List.drop n o) (by simp)]

set_option maxHeartbeats 2000000 in
theorem lost_ok (D : RDisk w0 w q d ps cs ks t c) (f : Sl) (keep : List Bool) (torn cut : Int) (hf : RdB w f keep) (hfs : keep ≠ [] → ∀ a, f.a = some a → ¬ inSl ps a.block) :
    Calls Try.prog 44 #[.pointer (some ⟨q, 0, none⟩), .agg #[.slice f.a f.n f.c, .int .i64 torn, .int .i64 cut]] w fun e w' =>
      e = .returned (.tuple #[]) ∧ RDisk w0 w' q (d.dropped keep torn cut) ps ⟨none, 0, 0⟩ ks t c ∧ Fr (fun k => k = q ∨ inSl ps k) w w' := by
  have hqq := D.blk.lt
  apply c44
  unfold t44
  refine new_ok fun w1 m4 hm4 hs1 B4 F1 => ?_
  have D1 := D.fr F1 (fun _ _ h => h)
  have hf1 := hf.fr F1 (fun _ _ _ h => h)
  have hpslt := own_lt D.plat
  have hm4p : ¬ inSl ps m4 := by rintro ⟨a, ha, hb⟩; have := hpslt a ha; omega
  have hcn := own_n D.cache
  have hcl : d.cache.length ≤ 9223372036854775807 := by
    rcases D.cache.2 with ⟨_, h⟩ | ⟨_, _, _, _, _, _, h1, h2, _⟩
    · omega
    · unfold maxLen at h2; omega
  have hpq : ¬ inSl ps q := by rintro ⟨a, ha, hb⟩; exact D.s1 a ha hb
  refine join0_ok (fun w' => w'.ownsRow 0 9 1 (.slice ps.a ps.n ps.c) d.plat.length ((dropL keep torn cut 0 d.cache d.plat).map sv) ∧ Fr (inSl ps) w1 w') (fun kend hkend => ?_) (fun w2 ⟨hown, F2⟩ => ?_)
  rotate_left
  · have BD := D1.blk.fr F2 hpq
    refine nn_ok (BD.st (o := 1) rfl (by simp) fun w3 B3 F3 => nn_ok (B3.st (o := 2) rfl (by simp) fun w4 B4 F4 => nn_ok (B4.st (o := 6) rfl (by simp) fun w5 B5 F5 => ?_)))
    have F25 : Fr (oneB q) w2 w5 := (F3.then F4 (fun _ _ h => h)).then F5 (fun _ _ h => h)
    have F : Fr (fun k => k = q ∨ inSl ps k) w w5 := ((F1.mono (fun _ _ h => h.elim)).then (F2.mono (T := fun k => k = q ∨ inSl ps k) fun _ _ h => .inr h) (fun _ _ h => h)).then F25 (fun _ _ h => .inl h)
    refine ⟨rfl, ?_, F⟩
    have h0 := D.ops0
    have hl := dropL_length keep torn cut d.cache 0 d.plat
    exact {
      blk := by simpa [DM.dropped] using B5
      plat := by
        show w5.ownsRow 0 9 1 _ (dropL keep torn cut 0 d.cache d.plat).length _
        rw [hl]
        exact own_cell hown F25 (own_blk hown fun a ha e => D.s1 a ha e)
      cache := World.ownsRow_nil _ _ _ _
      len := dropL_len keep torn cut d.cache 0 d.plat (fun x hx => (D.cwf x hx).2) D.len
      cwf := fun x hx => by simp [DM.dropped] at hx
      pos := by show 0 < (dropL keep torn cut 0 d.cache d.plat).length; rw [hl]; exact D.pos
      big := by show (dropL keep torn cut 0 d.cache d.plat).length ≤ 4096; rw [hl]; exact D.big
      fall := fun h => absurd rfl h
      arm0 := Int.le_refl _
      armU := by show (0 : Int) ≤ _; omega
      ops0 := h0
      s1 := D.s1
      s2 := fun a ha => by cases ha }
  refine loop1_ok (c := .int .i64)
    (fun (i : Int) w' => ∃ (k : Nat) (pl : List (List UInt8)), i = (k : Int) ∧ k ≤ d.cache.length ∧ pl.length = d.plat.length ∧ (∀ x ∈ pl, x.length = 64) ∧
      w'.ownsRow 0 9 1 (.slice ps.a ps.n ps.c) d.plat.length (pl.map sv) ∧ Fr (inSl ps) w1 w' ∧ dropL keep torn cut k (d.cache.drop k) pl = dropL keep torn cut 0 d.cache d.plat)
    (fun (i : Int) => (d.cache.length - i.toNat)) ?_ ⟨0, d.plat, rfl, Nat.zero_le _, rfl, D.len, D1.plat, Fr.refl _ _, rfl⟩
  rintro rec i w2 ⟨k, pl, rfl, hk, hpl2, hlen, hown, F2, hrest⟩ hrec
  have B4' := B4.fr F2 hm4p
  have BD := D1.blk.fr F2 hpq
  have hf2 := hf1.fr F2 (fun hl a ha hb => hfs hl a ha hb)
  refine nn_ok (BD.ldS (o := 1) rfl (ite_ok (fun hlt => ?_) (fun hge => ?_)))
  rotate_left
  · have hge : k = d.cache.length := by simp only [decide_eq_false_iff_not] at hge; omega
    subst hge
    rw [List.drop_length] at hrest
    have hrest : pl = dropL keep torn cut 0 d.cache d.plat := hrest
    subst hrest
    exact hkend _ ⟨hown, F2⟩
  have hlt : k < d.cache.length := by simp only [decide_eq_true_eq] at hlt; omega
  obtain ⟨x, hx⟩ : ∃ x, d.cache[k]? = some x := ⟨_, List.getElem?_eq_getElem hlt⟩
  obtain ⟨hx1, hx2⟩ := D.cwf x (List.mem_of_getElem? hx)
  have D2c : w2.ownsRow 0 83 2 (.slice cs.a cs.n cs.c) d.cache.length (d.cache.flatMap wr) := own_cell D1.cache F2 (own_blk D1.cache fun a ha => by
    rintro ⟨b, hb, e⟩; exact (D.s2 a ha).2 b hb e.symm)
  obtain ⟨g, cur, hg, _, BG, hcur, _⟩ := own_get D2c (by omega)
  have hrow : ∀ j, j < 2 → cur[k * 2 + j]? = (wr x)[j]? := fun j hj => by
    have h1 := flat_at wr 2 (fun y _ => wr_len y) hx j hj
    have h2 : j < (wr x).length := by rw [wr_len]; exact hj
    rw [List.getElem?_eq_getElem h2] at h1 ⊢
    exact hcur _ _ h1
  refine join0_ok (fun w' => w'.ownsRow 0 9 1 (.slice ps.a ps.n ps.c) d.plat.length ((put1 pl x.1 x.2 (amount keep torn cut k)).map sv) ∧ Fr (inSl ps) w1 w') (fun k10 hk10 => ?_) (fun w3 ⟨h1, h2⟩ => ?_)
  rotate_left
  · refine hrec _ _ ⟨k + 1, put1 pl x.1 x.2 (amount keep torn cut k), ?_, by omega, by rw [put1_length]; exact hpl2, put1_len hlen hx2, h1, h2, ?_⟩ ?_
    · rw [wrap_ok (by omega) (by omega)]; omega
    · have hd : d.cache.drop k = x :: d.cache.drop (k + 1) := by
        rw [List.drop_eq_getElem_cons hlt]
        congr 1
        exact (List.getElem?_eq_some_iff.1 hx).2
      rw [hd] at hrest
      exact hrest
    · rw [wrap_ok (by omega) (by omega), Int.toNat_natCast]; omega
  refine nn_ok (BD.ldS (o := 1) rfl ?_)
  rw [hg]
  refine idxB_ok (by show k < cs.n; omega) ?_
  refine BG.ld (o := 0 + k * 2 + 0) (by rw [Nat.zero_add]; exact (hrow 0 (by omega)).trans rfl) (BG.ld (o := 0 + k * 2 + 1) (by rw [Nat.zero_add]; exact (hrow 1 (by omega)).trans rfl) ?_)
  refine new_ok fun w3 m16 hm16 hs3 B16 F3 => B16.st (o := 0) rfl (by simp) fun w4 B16 F4 => B16.st (o := 1) rfl (by simp) fun w5 B16 F5 => ?_
  have hw12 := F2.size
  have F25 : Fr noB w2 w5 := (F3.then F4 fun y hy h => (show False by unfold oneB at h; omega)).then F5 fun y hy h => (show False by unfold oneB at h; omega)
  have B45 := B4'.fr F25 (fun h => h)
  have BD5 := BD.fr F25 (fun h => h)
  have hf5 := hf2.fr F25 (fun _ _ _ h => h)
  have hown5 := own_cell hown F25 (fun _ _ h => h)
  have hle : amount keep torn cut k ≤ 64 := by
    unfold amount clamp
    split
    · omega
    · split <;> omega
  -- is it kept?
  refine join1_ok (c := .bool) (fun (b : Bool) w' => b = decide (keep[k]? = some true) ∧ w' = w5) (fun kj hkj => ?_) ?_
  · refine B45.ldS (o := 0) rfl (ite_ok (fun h => ?_) fun h => hkj _ _ ⟨?_, rfl⟩)
    · have h : k < keep.length := by simp only [decide_eq_true_eq] at h; have := hf5.1; omega
      obtain ⟨a, ha, hh⟩ := hf5.2 (by intro e; rw [e] at h; simp at h)
      have hfn := hf5.1
      obtain ⟨b, hb⟩ : ∃ b, keep[k]? = some b := ⟨_, List.getElem?_eq_getElem h⟩
      have hc := hh k (.bool b) (by simp [hb])
      refine B45.ldS (o := 0) rfl ?_
      show idxG f.a f.n (k : Int) 1 _ _ _
      rw [ha]
      refine idx_ok (by omega) (by omega) ?_
      rw [Int.toNat_natCast, Nat.mul_one]
      refine ld_ok (c := .bool) (x := b) hc (hkj _ _ ⟨?_, rfl⟩)
      rw [hb]
      cases b <;> simp
    · have h : ¬ k < keep.length := by simp only [decide_eq_false_iff_not] at h; have := hf5.1; omega
      rw [List.getElem?_eq_none (by omega)]
      rfl
  rintro b w5' ⟨hb, hw⟩
  replace hw := hw.symm
  subst hw
  refine join1_ok (c := .int .i64) (fun (y : Int) w' => y = (if keep[k]? = some true then 64 else 0) ∧ w' = w5) (fun kj hkj => ?_) ?_
  · refine ite_ok (fun h => hkj _ _ ⟨?_, rfl⟩) fun h => hkj _ _ ⟨?_, rfl⟩
    · rw [h] at hb; rw [if_pos (of_decide_eq_true hb.symm)]
    · rw [h] at hb; rw [if_neg (of_decide_eq_false hb.symm)]
  rintro y w5' ⟨hy, hw⟩
  replace hw := hw.symm
  subst hw
  refine B45.ld (o := 1) rfl (join1_ok (c := .int .i64) (fun (y : Int) w' => y = ((amount keep torn cut k : Nat) : Int) ∧ w' = w5) (fun kj hkj => ?_) ?_)
  · rw [wrap_ok (by omega) (by omega)]
    refine ite_ok (fun h => ?_) fun h => hkj _ _ ⟨?_, rfl⟩
    · have h : torn = (k : Int) + 1 := by simpa using h
      refine B45.ld (o := 2) rfl (join1_ok (c := .int .i64) (fun (y : Int) w' => y = max cut 0 ∧ w' = w5) (fun kj2 hkj2 => ?_) ?_)
      · refine ite_ok (fun h => hkj2 _ _ ⟨?_, rfl⟩) fun h => hkj2 _ _ ⟨?_, rfl⟩
        · simp only [decide_eq_true_eq] at h; omega
        · simp only [decide_eq_false_iff_not] at h; omega
      rintro y2 w5' ⟨hy2, hw⟩
      replace hw := hw.symm
      subst hw
      refine join1_ok (c := .int .i64) (fun (y : Int) w' => y = ((clamp cut : Nat) : Int) ∧ w' = w5) (fun kj2 hkj2 => ?_) ?_
      · refine ite_ok (fun h => hkj2 _ _ ⟨?_, rfl⟩) fun h => hkj2 _ _ ⟨?_, rfl⟩
        all_goals unfold clamp
        · simp only [decide_eq_true_eq] at h; change Int at y2; rw [hy2] at h; omega
        · simp only [decide_eq_false_iff_not] at h; change Int at y2; rw [hy2] at h ⊢; omega
      rintro y3 w5' ⟨hy3, hw⟩
      replace hw := hw.symm
      subst hw
      refine hkj _ _ ⟨?_, rfl⟩
      rw [hy3]
      unfold amount
      rw [if_pos h.symm]
    · have h : ¬ (k : Int) + 1 = torn := by intro e; simp [e] at h
      rw [hy]
      unfold amount
      rw [if_neg h]
      split <;> rfl
  rintro y w5' ⟨hy, hw⟩
  replace hw := hw.symm
  subst hw
  change Int at y
  subst hy
  refine drew_ok fun w6 F6 _ => ?_
  have hown6 := own_cell hown5 F6 (fun _ _ h => h)
  have BD6 := BD5.fr F6 (fun h => h)
  have B166 := B16.fr F6 (fun h => h)
  obtain ⟨old, hold⟩ : ∃ old, pl[x.1]? = some old := ⟨_, List.getElem?_eq_getElem (by omega)⟩
  have hold64 := hlen old (List.mem_of_getElem? hold)
  obtain ⟨gp, curp, hgp, hpn, BP, hcurp, hsetp⟩ := own_get hown6 D.pos
  have hgpq : gp ≠ q := fun e => D.s1 _ hgp e
  refine nn_ok (BD6.ldS (o := 0) rfl (B166.ld (o := 0) rfl (B166.ld (o := 1) rfl ?_)))
  have hx2' : (bs x.2).size = 64 := by rw [bs_size]; exact hx2
  refine sub_ok (by omega) (by omega) (by omega) ?_
  refine nn_ok (BD6.ldS (o := 0) rfl (B166.ld (o := 0) rfl ?_))
  rw [hgp]
  refine idxB_ok (by show x.1 < ps.n; omega) (BP.ld (o := 0 + x.1 * 1) (x := bs old) (hcurp _ _ (by simp [hold, sv, CT.val])) ?_)
  have ho64 : (bs old).size = 64 := by rw [bs_size]; exact hold64
  refine sub_ok (by omega) (by omega) (by omega) ?_
  simp only [Int.toNat_natCast, Int.toNat_zero]
  refine cat_ok (by simp only [ByteArray.size_extract]; omega) ?_
  rw [cat_bytes]
  refine idxB_ok (by show x.1 < ps.n; omega) (BP.st (o := 0 + x.1 * 1) rfl ?_ fun w7 B7 F7 => hk10 _ ⟨?_, ?_⟩)
  · have h := hcurp x.1 (sv old) (by simp [hold])
    have := (List.getElem?_eq_some_iff.1 h).1
    omega
  · have := hsetp w7 (0 + x.1 * 1) (.string (bs (x.2.take (amount keep torn cut k) ++ old.drop (amount keep torn cut k)))) (by simp; omega) B7
    rw [hgp] at this ⊢
    have e : (put1 pl x.1 x.2 (amount keep torn cut k)).map sv = (pl.map sv).set (0 + x.1 * 1) (.string (bs (x.2.take (amount keep torn cut k) ++ old.drop (amount keep torn cut k)))) := by
      apply List.ext_getElem?
      intro j
      rw [Nat.zero_add, Nat.mul_one, List.getElem?_map, put1_at, List.getElem?_set]
      by_cases hij : x.1 = j
      · subst hij
        rw [hold, if_pos rfl, if_pos (by simp; omega)]
        simp [sv]
      · rw [if_neg hij, List.getElem?_map]
        simp [hij]
    rw [e]
    exact this
  · refine (F2.then (F25.then F6 (fun _ _ h => h)) (fun _ _ h => h.elim)).then F7 fun y _ h => ?_
    rw [show y = gp from h]
    exact ⟨_, hgp, rfl⟩
end
end Go.Proofs.Ytmklfedlifcoiaa
