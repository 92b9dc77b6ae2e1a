/- The disk's methods: what they do, said of a plain model. No condition but that the disk is one that a call made. -/
import Derived.Test.YtmklfedlifcoiaaTreeA
import Derived.Test.YtmklfedlifcoiaaHeap
namespace Go.Proofs.Ytmklfedlifcoiaa
open Go.Lift

/-- a disk, as plain data -/
structure DM where
  plat : List (List UInt8)
  cache : List (Nat × List UInt8)
  keep : List Bool
  torn : Int
  cut : Int
  armed : Int
  ops : Int
  dead : Bool

def u8 (b : UInt8) : Value := .int .u8 (b.toNat : Int)
def bv (s : List UInt8) : List Value := s.map u8
def wv (x : Nat × List UInt8) : List Value := .int .i64 (x.1 : Int) :: bv x.2
@[reducible] def DM.cells (d : DM) (bp : Nat) (cs ks : Sl) : List Value :=
  [.slice (some ⟨bp, 0, none⟩) d.plat.length d.plat.length, .slice cs.a cs.n cs.c, .slice ks.a ks.n ks.c, .int .i64 d.torn, .int .i64 d.cut, .int .i64 d.armed, .int .i64 d.ops, .bool d.dead]

/-- a slice of bools that reads so -/
def RdB (w : World) (s : Sl) (l : List Bool) : Prop := s.n = l.length ∧ (l ≠ [] → ∃ a, s.a = some a ∧ Held w (a, l.map Value.bool))

structure Disk (w : World) (p : Nat) (d : DM) (bp : Nat) (cs ks : Sl) : Prop where
  blk : Blk w p 61 (d.cells bp cs ks)
  plat : Blk w bp 72 (d.plat.flatMap bv)
  len : ∀ s ∈ d.plat, s.length = 64
  pos : 0 < d.plat.length
  big : d.plat.length ≤ 4096
  cache : w.ownsRow 0 74 65 (.slice cs.a cs.n cs.c) d.cache.length (d.cache.flatMap wv)
  cwf : ∀ x ∈ d.cache, x.1 < d.plat.length ∧ x.2.length = 64
  keep : RdB w ks d.keep
  arm0 : 0 ≤ d.armed
  armU : d.armed ≤ 9223372036854775807
  ops0 : 0 ≤ d.ops
  s1 : p ≠ bp
  s2 : ∀ a, cs.a = some a → a.block ≠ p ∧ a.block ≠ bp
  s3 : d.keep ≠ [] → ∀ a, ks.a = some a → a.block ≠ p ∧ a.block ≠ bp ∧ ∀ c, cs.a = some c → a.block ≠ c.block


theorem u8_one (b : UInt8) : (u8 b).oneCell' = true := rfl
theorem bv_one {s : List UInt8} : ∀ v ∈ bv s, v.oneCell' = true := fun v hv => by
  obtain ⟨b, _, rfl⟩ := List.mem_map.1 hv
  rfl
theorem bv_length (s : List UInt8) : (bv s).length = s.length := by simp [bv]
theorem wv_length {x : Nat × List UInt8} (h : x.2.length = 64) : (wv x).length = 65 := by simp [wv, bv, h]
theorem wv_one {x : Nat × List UInt8} : ∀ v ∈ wv x, v.oneCell' = true := fun v hv => by
  rcases List.mem_cons.1 hv with rfl | hv
  · rfl
  · exact bv_one v hv

section
variable {w : World} {p : Nat} {d : DM} {bp : Nat} {cs ks : Sl}

theorem own_cell {S : Nat → Prop} {w w' : World} {e : TypeId} {sz : Nat} {v : Value} {n : Nat} {xs : List Value} (h : w.ownsRow 0 e sz v n xs) (f : Fr S w w') (hb : ∀ b, v.ownBlock = some b → ¬ S b) : w'.ownsRow 0 e sz v n xs := by
  refine ⟨h.1, ?_⟩
  rcases h.2 with h | ⟨g, cap, cur, rfl, h0, hg, r⟩
  · exact .inl h
  · refine .inr ⟨g, cap, cur, rfl, h0, ?_, r⟩
    rw [f.blk g (Array.getElem?_eq_some_iff.1 hg).1 (hb g rfl)]
    exact hg
theorem RdB.fr {S : Nat → Prop} {w w' : World} {s : Sl} {l : List Bool} (h : RdB w s l) (f : Fr S w w') (hb : l ≠ [] → ∀ a, s.a = some a → ¬ S a.block) : RdB w' s l :=
  ⟨h.1, fun hl => by
    obtain ⟨a, ha, hh⟩ := h.2 hl
    exact ⟨a, ha, f.held hh (hb hl a ha)⟩⟩

/-- the blocks of a disk -/
def Disk.blocks (p bp : Nat) (cs ks : Sl) (keep : List Bool) (k : Nat) : Prop := k = p ∨ k = bp ∨ (∃ a, cs.a = some a ∧ a.block = k) ∨ (keep ≠ [] ∧ ∃ a, ks.a = some a ∧ a.block = k)

theorem Disk.fr {S : Nat → Prop} {w' : World} (D : Disk w p d bp cs ks) (f : Fr S w w') (hb : ∀ k, Disk.blocks p bp cs ks d.keep k → ¬ S k) : Disk w' p d bp cs ks :=
  { D with
    blk := D.blk.fr f (hb _ (.inl rfl))
    plat := D.plat.fr f (hb _ (.inr (.inl rfl)))
    cache := own_cell D.cache f fun b e => hb _ (.inr (.inr (.inl (by
      simp only [Value.ownBlock] at e
      cases ha : cs.a with
      | none => simp [ha] at e
      | some a => simp [ha] at e; exact ⟨a, rfl, e⟩))))
    keep := D.keep.fr f fun hl a ha => hb _ (.inr (.inr (.inr ⟨hl, a, ha, rfl⟩))) }

/-- the disk's own struct is written, nothing else -/
theorem Disk.upd {w' : World} {d' : DM} (D : Disk w p d bp cs ks) (hb : Blk w' p 61 (d'.cells bp cs ks)) (f : Fr (oneB p) w w') (e1 : d'.plat = d.plat) (e2 : d'.cache = d.cache) (e3 : d'.keep = d.keep)
    (h1 : 0 ≤ d'.armed) (h2 : d'.armed ≤ 9223372036854775807) (h3 : 0 ≤ d'.ops) : Disk w' p d' bp cs ks where
  blk := hb
  plat := e1 ▸ D.plat.fr f (fun e => D.s1 e.symm)
  len := e1 ▸ D.len
  pos := e1 ▸ D.pos
  big := e1 ▸ D.big
  cache := e2 ▸ own_cell D.cache f fun b e hb => by
    simp only [Value.ownBlock] at e
    cases ha : cs.a with
    | none => simp [ha] at e
    | some a => simp [ha] at e; exact (D.s2 a ha).1 (e.trans hb)
  cwf := e1 ▸ e2 ▸ D.cwf
  keep := e3 ▸ D.keep.fr f fun hl a ha hb => (D.s3 hl a ha).1 hb
  arm0 := h1
  armU := h2
  ops0 := h3
  s1 := D.s1
  s2 := D.s2
  s3 := e3 ▸ D.s3

def DM.ready (d : DM) (i : Int) : Int := if d.dead then 190 else if i < 0 ∨ (d.plat.length : Int) ≤ i then 191 else 0

theorem none_ok (D : Disk w p d bp cs ks) : Calls Try.prog 34 #[.pointer (some ⟨p, 0, none⟩)] w fun e w' => e = .returned (.bool false) ∧ w' = w := by
  apply c34
  unfold t34 joinG
  refine ite_no rfl (nn_ok (D.blk.ldS (o := 0) rfl ⟨?_, rfl⟩))
  have := D.pos
  rw [show (((d.plat.length : Nat) : Int) == 0) = false from beq_eq_false_iff_ne.2 (by omega)]

theorem ready_ok (D : Disk w p d bp cs ks) (i : Int) : Calls Try.prog 30 #[.pointer (some ⟨p, 0, none⟩), .int .i64 i] w fun e w' => e = .returned (.int .i64 (d.ready i)) ∧ w' = w := by
  apply c30
  unfold t30 joinG
  refine call_ok (none_ok D) ?_
  rintro _ _ ⟨rfl, rfl⟩
  refine ⟨((false, ()), ()), rfl, ite_no rfl (nn_ok (D.blk.ld (o := 7) rfl ?_))⟩
  refine ite_ok (fun h => ⟨by simp [DM.ready, h], rfl⟩) fun h => ?_
  refine ite_ok (fun h1 => ite_yes rfl ⟨?_, rfl⟩) fun h1 => nn_ok (D.blk.ldS (o := 0) rfl (ite_ok (fun h2 => ⟨?_, rfl⟩) fun h2 => ⟨?_, rfl⟩))
  · simp at h1; simp [DM.ready, h, h1]
  · simp at h1 h2; simp [DM.ready, h, h2]
  · simp at h1 h2; simp [DM.ready, h, h2]; exact h1

def DM.fell (d : DM) : DM := { d with ops := d.ops + 1, armed := if d.armed = 0 then 0 else d.armed - 1 }

theorem falls_ok (D : Disk w p d bp cs ks) (ho : d.ops < 4611686018427387904) : Calls Try.prog 32 #[.pointer (some ⟨p, 0, none⟩)] w fun e w' =>
    e = .returned (.bool (d.armed == 1)) ∧ Disk w' p d.fell bp cs ks ∧ Fr (oneB p) w w' := by
  have h0 := D.ops0
  have ha := D.arm0
  have hu := D.armU
  apply c32
  unfold t32
  refine nn_ok (D.blk.ld (o := 6) rfl (nn_ok (D.blk.st (o := 6) rfl (by simp) fun w1 B1 F1 => ?_)))
  rw [wrap_ok (by omega) (by omega)] at B1
  refine nn_ok (B1.ld (o := 5) rfl ?_)
  refine ite_ok (fun h => ?_) fun h => ?_
  · have h : d.armed = 0 := by simpa using h
    refine ⟨by simp [h], D.upd (d' := d.fell) ?_ F1 rfl rfl rfl ?_ ?_ ?_, F1⟩
    · simpa [DM.cells, DM.fell, h] using B1
    all_goals simp only [DM.fell, h, if_true] <;> omega
  · have h : d.armed ≠ 0 := by simpa using h
    refine nn_ok (B1.ld (o := 5) rfl (nn_ok (B1.st (o := 5) rfl (by simp) fun w2 B2 F2 => ?_)))
    rw [wrap_ok (by omega) (by omega)] at B2
    refine nn_ok (B2.ld (o := 5) rfl ?_)
    have F := F1.then F2 (fun x _ h => h)
    refine ⟨by rw [show (d.armed - 1 == 0) = (d.armed == 1) by rw [Bool.eq_iff_iff]; simp; omega], D.upd (d' := d.fell) ?_ F rfl rfl rfl ?_ ?_ ?_, F⟩
    · simpa [DM.cells, DM.fell, h] using B2
    all_goals simp only [DM.fell, if_neg h] <;> omega

/-! ### The power goes -/
def clamp (c : Int) : Nat := (min (max c 0) 64).toNat
def amount (keep : List Bool) (torn cut : Int) (k : Nat) : Nat := if (k : Int) + 1 = torn then clamp cut else if keep[k]? = some true then 64 else 0
def put1 (pl : List (List UInt8)) (i : Nat) (s : List UInt8) (n : Nat) : List (List UInt8) := pl.modify i fun old => s.take n ++ old.drop n
def dropL (keep : List Bool) (torn cut : Int) : Nat → List (Nat × List UInt8) → List (List UInt8) → List (List UInt8)
  | _, [], pl => pl
  | k, (i, s) :: r, pl => dropL keep torn cut (k + 1) r (put1 pl i s (amount keep torn cut k))
def DM.dropped (d : DM) (keep : List Bool) (torn cut : Int) : DM :=
  { plat := dropL keep torn cut 0 d.cache d.plat, cache := [], keep := [], torn := 0, cut := 0, armed := 0, ops := d.ops, dead := true }

theorem put1_length (pl : List (List UInt8)) (i : Nat) (s : List UInt8) (n : Nat) : (put1 pl i s n).length = pl.length := by simp [put1]
theorem put1_len {pl : List (List UInt8)} {i : Nat} {s : List UInt8} {n : Nat} (h : ∀ x ∈ pl, x.length = 64) (hs : s.length = 64) : ∀ x ∈ put1 pl i s n, x.length = 64 := by
  intro x hx
  unfold put1 at hx
  obtain ⟨j, hj⟩ := List.mem_iff_getElem?.1 hx
  rw [List.getElem?_modify] at hj
  cases ho : pl[j]? with
  | none => simp [ho] at hj
  | some old =>
    have hl := h old (List.mem_of_getElem? ho)
    simp only [ho, Option.map_eq_map, Option.map_some, Option.some.injEq] at hj
    split at hj
    · subst hj; simp [hl, hs]; omega
    · subst hj; exact hl
theorem dropL_length (keep : List Bool) (torn cut : Int) : ∀ (c : List (Nat × List UInt8)) (k : Nat) (pl : List (List UInt8)), (dropL keep torn cut k c pl).length = pl.length
  | [], _, _ => rfl
  | (i, s) :: c, k, pl => by rw [dropL, dropL_length keep torn cut c, put1_length]
theorem dropL_len (keep : List Bool) (torn cut : Int) : ∀ (c : List (Nat × List UInt8)) (k : Nat) (pl : List (List UInt8)), (∀ x ∈ c, x.2.length = 64) → (∀ x ∈ pl, x.length = 64) → ∀ x ∈ dropL keep torn cut k c pl, x.length = 64
  | [], _, _, _, h => h
  | (i, s) :: c, k, pl, hc, h => dropL_len keep torn cut c _ _ (fun x hx => hc x (by simp [hx])) (put1_len h (hc (i, s) (by simp)))

/-- the cache's rows, as they lie -/
theorem cache_row (D : Disk w p d bp cs ks) {k : Nat} {x : Nat × List UInt8} (hk : d.cache[k]? = some x) :
    ∃ g cur, cs.a = some ⟨g, 0, none⟩ ∧ cs.n = d.cache.length ∧ Blk w g 74 cur ∧ g ≠ p ∧ g ≠ bp ∧ ∀ j, j < 65 → cur[k * 65 + j]? = (wv x)[j]? := by
  have hlt : k < d.cache.length := (List.getElem?_eq_some_iff.1 hk).1
  have hm := List.mem_of_getElem? hk
  rcases D.cache.2 with ⟨h1, h2⟩ | ⟨g, cap, cur, hv, _, hg, hnc, _, hsz, htake⟩
  · omega
  · simp only [Value.slice.injEq] at hv
    obtain ⟨ha, hn, hc⟩ := hv
    have hs := D.s2 _ ha
    refine ⟨g, cur.toList, ha, hn, by unfold Blk; simpa using hg, hs.1, hs.2, fun j hj => ?_⟩
    have h1 := flat_at wv 65 (fun y hy => wv_length (D.cwf y hy).2) hk j hj
    rw [← htake, List.getElem?_take_of_lt] at h1
    · exact h1
    · have : k * 65 + 65 ≤ d.cache.length * 65 := by rw [← Nat.succ_mul]; exact Nat.mul_le_mul_right _ hlt
      omega

theorem cache_small (D : Disk w p d bp cs ks) : d.cache.length ≤ 9223372036854775807 ∧ cs.n = d.cache.length := by
  rcases D.cache.2 with ⟨h1, h2⟩ | ⟨g, cap, cur, hv, _, _, h1, h2, _⟩
  · simp only [Value.slice.injEq] at h1; omega
  · simp only [Value.slice.injEq] at hv
    unfold maxLen at h2
    exact ⟨by omega, hv.2.1⟩

theorem info74 : ∃ i, Try.prog.info? 74 = some i ∧ i.size = 65 := by
  have h : (Try.prog.info? 74).map (·.size) = some 65 := by kernel_rfl
  cases hi : Try.prog.info? 74 with
  | none => rw [hi] at h; cases h
  | some i => rw [hi] at h; exact ⟨i, rfl, by simpa using h⟩
theorem u75 : Try.prog.underlying 75 = some (.slice 5) := by kernel_rfl
theorem i5 : (Try.prog.info? 5).map (·.size) = some 1 := by kernel_rfl

set_option maxHeartbeats 1000000 in
theorem drop_ok (D : Disk w p d bp cs ks) (f : Sl) (keep : List Bool) (torn cut : Int) (hf : RdB w f keep) (hfs : keep ≠ [] → ∀ a, f.a = some a → a.block ≠ bp) :
    Calls Try.prog 33 #[.pointer (some ⟨p, 0, none⟩), .agg #[.slice f.a f.n f.c, .int .i64 torn, .int .i64 cut]] w fun e w' =>
      e = .returned (.tuple #[]) ∧ Disk w' p (d.dropped keep torn cut) bp ⟨none, 0, 0⟩ ⟨none, 0, 0⟩ ∧ Fr (fun k => k = p ∨ k = bp) w w' := by
  have hpl := D.plat.lt
  have hpp := D.blk.lt
  apply c33
  unfold t33
  refine new_ok fun w1 m4 hm4 hs1 B4 F1 => ?_
  have D1 := D.fr F1 (fun _ _ h => h)
  have hf1 := hf.fr F1 (fun _ _ _ h => h)
  have hm4p : m4 ≠ p := by omega
  have hm4b : m4 ≠ bp := by omega
  refine nn_ok (D1.blk.ldS (o := 1) rfl (join_in ?_))
  -- the loop
  obtain ⟨hcm, hcn⟩ := cache_small D
  refine loop1_ok (c := .int .i64)
    (fun (i : Int) w' => ∃ (k : Nat) (pl : List (List UInt8)), i = (k : Int) ∧ k ≤ d.cache.length ∧ pl.length = d.plat.length ∧ (∀ x ∈ pl, x.length = 64) ∧
      Blk w' bp 72 (pl.flatMap bv) ∧ Fr (oneB bp) w1 w' ∧ dropL keep torn cut k (d.cache.drop k) pl = dropL keep torn cut 0 d.cache d.plat)
    (fun (i : Int) => (d.cache.length - i.toNat)) ?_ ⟨0, d.plat, rfl, Nat.zero_le _, rfl, D.len, D1.plat, Fr.refl _ _, rfl⟩
  rintro rec i w2 ⟨k, pl, rfl, hk, hpl2, hlen, BP, F2, hrest⟩ hrec
  have B4' := B4.fr F2 hm4b
  have BD := D1.blk.fr F2 D.s1
  have hf2 := hf1.fr F2 (fun hl a ha hb => hfs hl a ha hb)
  refine ite_ok (fun hlt => ?_) (fun hge => ?_)
  · have hlt : k < d.cache.length := by simpa [hcn] using hlt
    obtain ⟨x, hx⟩ : ∃ x, d.cache[k]? = some x := ⟨_, List.getElem?_eq_getElem hlt⟩
    have hxm := List.mem_of_getElem? hx
    obtain ⟨hx1, hx2⟩ := D.cwf x hxm
    obtain ⟨g, cur, hg, _, BG, hgp, hgb, hrow⟩ := cache_row D1 hx
    have BG' := BG.fr F2 hgb
    rw [hg]
    refine join_in (idxB_ok (by simpa [hcn] using hlt) ?_)
    refine BG'.ldRow (cs := wv x) (wv_length hx2) (fun j v hj => ?_) ?_
    · have : j < 65 := by have := (List.getElem?_eq_some_iff.1 hj).1; rwa [wv_length hx2] at this
      rw [Nat.zero_add, hrow j this]; exact hj
    refine new_ok fun w3 m13 hm13 hs3 B13 F3 => ?_
    have hw2 := F2.size
    refine stRow_ok (t := 74) (by obtain ⟨i, hi, hs⟩ := info74; exact ⟨i, hi, by rw [hs]; simp [wv_length hx2]⟩) B13 (by simp [wv_length hx2]) (by simpa using wv_one) fun w4 B13' F4 _ => ?_
    have row_e13 : List.take 0 (#[Value.int IntKind.i64 0] ++ Array.replicate 64 (Value.int IntKind.u8 0)).toList ++ ((wv x).toArray.toList ++ List.drop (0 + (wv x).toArray.size) (#[Value.int IntKind.i64 0] ++ Array.replicate 64 (Value.int IntKind.u8 0)).toList) = wv x := by
      simp [wv_length hx2]
    rw [row_e13] at B13'
    have F24 : Fr noB w2 w4 := F3.then F4 fun y hy h => (show False by unfold oneB at h; omega)
    have B4'' := B4'.fr F24 (fun h => h)
    have BD' := BD.fr F24 (fun h => h)
    have BP' := BP.fr F24 (fun h => h)
    have hf4 := hf2.fr F24 (fun _ _ _ h => h)
    have hle : amount keep torn cut k ≤ 64 := by
      unfold amount clamp
      split
      · omega
      · split <;> omega
    refine join1_ok (c := .int .i64) (fun (y : Int) w' => y = ((amount keep torn cut k : Nat) : Int) ∧ w' = w4) (fun kj hkj => ?_) ?_
    · refine B4''.ld (o := 1) rfl (join1_ok (c := .int .i64) (fun (y : Int) w' => y = ((amount keep torn cut k : Nat) : Int) ∧ w' = w4) (fun kj2 hkj2 => ?_) (by rintro y w' h; exact hkj y w' h))
      refine ite_ok (fun h => ?_) (fun h => ?_)
      · have h : (k : Int) + 1 = torn := by rw [wrap_ok (by omega) (by omega)] at h; simpa using h
        refine B4''.ld (o := 2) rfl (hkj2 _ _ ⟨?_, rfl⟩)
        simp only [amount, if_pos h, clamp]
        by_cases hc : (0 : Int) > cut
        · simp only [if_pos hc]; split <;> omega
        · simp only [if_neg hc]; split <;> omega
      · have h : ¬ (k : Int) + 1 = torn := by rw [wrap_ok (by omega) (by omega)] at h; simpa using h
        refine join1_ok (c := .bool) (fun (y : Bool) w' => y = (keep[k]? == some true) ∧ w' = w4) (fun kj3 hkj3 => ?_) ?_
        · refine B4''.ldS (o := 0) rfl (ite_ok (fun h2 => ?_) (fun h2 => ?_))
          · have h2 : k < keep.length := by have := hf.1; simp at h2; omega
            have hne : keep ≠ [] := fun e => by subst e; simp at h2
            obtain ⟨fa, hfa, hheld⟩ := hf4.2 hne
            refine B4''.ldS (o := 0) rfl ?_
            rw [hfa]
            refine idx_ok (by omega) (by have := hf.1; simp only []; omega) ?_
            rw [Int.toNat_natCast, Nat.mul_one]
            refine ld_ok (x := keep[k]) (hheld k _ ?_) (hkj3 _ _ ⟨?_, rfl⟩)
            · simp [h2, CT.val]
            · cases hb : keep[k] <;> simp [h2, hb]
          · have h2 : ¬ k < keep.length := by have := hf.1; simp at h2; omega
            refine hkj3 _ _ ⟨?_, rfl⟩
            simp [List.getElem?_eq_none (Nat.le_of_not_lt h2)]
        · rintro y w' ⟨rfl, rfl⟩
          refine join_in (ite_ok (fun h3 => hkj2 _ _ ⟨?_, rfl⟩) (fun h3 => hkj2 _ _ ⟨?_, rfl⟩))
          · have h3 : keep[k]? = some true := by simpa using h3
            simp [amount, if_neg h, h3]
          · have h3 : keep[k]? ≠ some true := by simpa using h3
            simp [amount, if_neg h, h3]
    · rintro y w' ⟨rfl, rfl⟩
      refine drew_ok fun w5 F5 hs5 => ?_
      have F25 : Fr noB w2 w5 := F24.then F5 (fun _ _ h => h)
      have BD5 := BD'.fr F5 (fun h => h)
      have BP5 := BP'.fr F5 (fun h => h)
      have B135 := B13'.fr F5 (fun h => h)
      refine nn_ok (BD5.ldS (o := 0) rfl (B135.ld (o := 0) rfl ?_))
      refine idxB_ok (by exact hx1) (assume_ok rfl ?_)
      refine reslice_ok (by omega) (by omega) (by omega) (by omega) (assume_ok rfl (reslice_ok (by omega) (by omega) (by omega) (by omega) ?_))
      have hm13 : m13 ≠ bp := by have := BP.lt; omega
      have hfl : (pl.flatMap bv).length = pl.length * 64 := flat_length bv 64 (fun y hy => by rw [bv_length]; exact hlen y hy)
      have hfit : x.1 * 64 + 64 ≤ (pl.flatMap bv).length := by
        rw [hfl, ← Nat.succ_mul]; exact Nat.mul_le_mul_right _ (by omega)
      have hcl : (bv (x.2.take (amount keep torn cut k))).length = amount keep torn cut k := by rw [bv_length, List.length_take, hx2]; omega
      refine copy_ok (cs := bv (x.2.take (amount keep torn cut k))) u75 i5 (t := 72) (l := pl.flatMap bv) ?_ ?_ ?_ ?_ bv_one ?_
      · simpa using BP5
      · simp only [Int.toNat_natCast]; rw [hcl]; omega
      · refine B135.held (o := 1) fun j v hj => ?_
        rw [Nat.add_comm]
        show (bv x.2)[j]? = some v
        unfold bv at hj ⊢
        rw [List.getElem?_map] at hj ⊢
        rw [List.getElem?_take] at hj
        split at hj
        · exact hj
        · simp at hj
      · rw [hcl]; omega
      · intro w6 B6 F6 _
        have F26 : Fr (oneB bp) w2 w6 := (F25.mono (fun _ _ h => h.elim)).then F6 (fun _ _ h => h)
        refine keep_cons (B135.fr F6 (fun e => hm13 e) |>.held1 (o := 0) rfl) (keep_cons (BD5.fr F6 D.s1 |>.held1 (o := 0) rfl) (keep_nil ?_))
        refine hrec _ _ ⟨k + 1, put1 pl x.1 x.2 (amount keep torn cut k), ?_, by omega, by rw [put1_length]; exact hpl2, put1_len hlen hx2, ?_, F2.then F26 (fun _ _ h => h), ?_⟩ ?_
        · rw [wrap_ok (by omega) (by omega)]; omega
        · have hset := flat_set bv 64 (fun y hy => by rw [bv_length]; exact hlen y hy) (k := x.1) (by omega) (fun old => x.2.take (amount keep torn cut k) ++ old.drop (amount keep torn cut k))
            (fun r => bv (x.2.take (amount keep torn cut k)) ++ r.drop (amount keep torn cut k)) (fun y hy r => by
              have hl := hlen y hy
              rw [List.drop_append_of_le_length (by rw [bv_length]; omega), ← List.append_assoc]
              simp [bv])
          unfold put1
          rw [← hset, List.drop_drop]
          simp only [Nat.zero_add] at B6
          rw [hcl] at B6
          simpa using B6
        · have hd : d.cache.drop k = x :: d.cache.drop (k + 1) := by
            rw [List.drop_eq_getElem_cons hlt]
            congr 1
            exact (List.getElem?_eq_some_iff.1 hx).2
          rw [hd] at hrest
          exact hrest
        · simp only [Int.toNat_natCast]
          rw [wrap_ok (by omega) (by omega)]
          omega
  · have hge : k = d.cache.length := by have : ¬ ((k : Int) < cs.n) := by simpa using hge
                                        omega
    subst hge
    rw [List.drop_length] at hrest
    have hrest : pl = dropL keep torn cut 0 d.cache d.plat := hrest
    subst hrest
    refine nn_ok (BD.st (o := 1) rfl (by simp) fun w3 B3 F3 => nn_ok (B3.st (o := 5) rfl (by simp) fun w4 B4 F4 => nn_ok (B4.st (o := 2) rfl (by simp) fun w5 B5 F5 => B5.st (o := 3) rfl (by simp) fun w6 B6 F6 =>
      B6.st (o := 4) rfl (by simp) fun w7 B7 F7 => nn_ok (B7.st (o := 7) rfl (by simp) fun w8 B8 F8 => ?_))))
    have F28 : Fr (oneB p) w2 w8 := ((((F3.then F4 (fun _ _ h => h)).then F5 (fun _ _ h => h)).then F6 (fun _ _ h => h)).then F7 (fun _ _ h => h)).then F8 (fun _ _ h => h)
    have F : Fr (fun k => k = p ∨ k = bp) w w8 := ((F1.mono (fun _ _ h => h.elim)).then (F2.mono (T := fun k => k = p ∨ k = bp) fun _ _ h => .inr h) (fun _ _ h => h)).then F28 (fun _ _ h => .inl h)
    refine ⟨rfl, ?_, F⟩
    have h0 := D.ops0
    exact {
      blk := by simpa [DM.cells, DM.dropped, hpl2] using B8
      plat := BP.fr F28 (fun e => D.s1 e.symm)
      len := hlen
      pos := by show 0 < (dropL keep torn cut 0 d.cache d.plat).length; rw [hpl2]; exact D.pos
      big := by show (dropL keep torn cut 0 d.cache d.plat).length ≤ 4096; rw [hpl2]; exact D.big
      cache := World.ownsRow_nil _ _ _ _
      cwf := fun x hx => by simp [DM.dropped] at hx
      keep := ⟨rfl, fun h => absurd rfl h⟩
      arm0 := Int.le_refl _
      armU := by show (0 : Int) ≤ _; omega
      ops0 := h0
      s1 := D.s1
      s2 := fun a ha => by cases ha
      s3 := fun h => absurd rfl h }
end
end Go.Proofs.Ytmklfedlifcoiaa
