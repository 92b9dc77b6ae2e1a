/- The disk's methods, further: what they do, said of a plain model, and which memory they touch. -/
import Derived.Test.YtmklfedlifcoiaaDiskA
namespace Go.Proofs.Ytmklfedlifcoiaa
open Go.Lift

/-- a disk at block p, all of whose memory lies in the blocks of B -/
def DAt (w : World) (p : Nat) (d : DM) (B : Nat → Prop) : Prop := ∃ bp cs ks, Disk w p d bp cs ks ∧ ∀ k, Disk.blocks p bp cs ks d.keep k → B k
/-- B, and what was made between two worlds -/
def Grow (B : Nat → Prop) (w w' : World) (k : Nat) : Prop := B k ∨ (w.heap.size ≤ k ∧ k < w'.heap.size)

theorem DAt.fr {S B : Nat → Prop} {w w' : World} {p : Nat} {d : DM} (D : DAt w p d B) (f : Fr S w w') (hb : ∀ k, B k → ¬ S k) : DAt w' p d B := by
  obtain ⟨bp, cs, ks, D, h⟩ := D
  exact ⟨bp, cs, ks, D.fr f fun k hk => hb k (h k hk), h⟩
theorem DAt.mono {B B' : Nat → Prop} {w : World} {p : Nat} {d : DM} (D : DAt w p d B) (hb : ∀ k, B k → B' k) : DAt w p d B' := by
  obtain ⟨bp, cs, ks, D, h⟩ := D
  exact ⟨bp, cs, ks, D, fun k hk => hb k (h k hk)⟩

def DM.wrote (d : DM) (i : Nat) (s : List UInt8) : DM := { d with cache := d.cache ++ [(i, s)] }
def DM.write (d : DM) (i : Int) (s : List UInt8) : DM × Int :=
  if d.ready i ≠ 0 then (d, d.ready i) else if s.length ≠ 64 then (d, 2) else
    if d.armed = 1 then ((d.wrote i.toNat s).fell.dropped d.keep d.torn d.cut, 190) else ((d.wrote i.toNat s).fell, 0)

theorem u59 : Try.prog.underlying 59 = some (.slice 74) := by kernel_rfl
theorem row74 : ∃ i z, Try.prog.info? 74 = some i ∧ i.zero = some z ∧ i.size = 65 ∧ i.bytes = 72 ∧ z.cells.size = 65 := by
  have h : (Try.prog.info? 74).map (fun i => (i.size, i.bytes, i.zero.map (·.cells.size))) = some (65, 72, some 65) := by kernel_rfl
  cases hi : Try.prog.info? 74 with
  | none => rw [hi] at h; cases h
  | some i =>
    rw [hi] at h
    simp only [Option.map_some, Option.some.injEq, Prod.mk.injEq] at h
    cases hz : i.zero with
    | none => rw [hz] at h; simp at h
    | some z => rw [hz] at h; exact ⟨i, z, rfl, hz, h.1, h.2.1, by simpa using h.2.2⟩
theorem c74 : Try.prog.cellsOf 74 = 65 := by kernel_rfl

set_option maxHeartbeats 1000000 in
theorem write_ok {w : World} {p : Nat} {d : DM} {B : Nat → Prop} (D0 : DAt w p d B) (i : Int) (s : ByteArray) (hc : d.cache.length < 1000000) (ho : d.ops < 4611686018427387904) :
    Calls Try.prog 12 #[.pointer (some ⟨p, 0, none⟩), .int .i64 i, .string s] w fun e w' =>
      e = .returned (.int .i64 (d.write i s.data.toList).2) ∧ DAt w' p (d.write i s.data.toList).1 (Grow B w w') ∧ Fr B w w' := by
  obtain ⟨bp, cs, ks, D, hB⟩ := D0
  have hsl : s.data.toList.length = s.size := by simp
  have same : DAt w p d (Grow B w w) ∧ Fr B w w := ⟨⟨bp, cs, ks, D, fun k hk => .inl (hB k hk)⟩, Fr.refl _ _⟩
  apply c12
  unfold t12
  refine call_ok (ready_ok D i) ?_
  rintro _ w' ⟨rfl, hw'⟩
  replace hw' := hw'.symm
  subst hw'
  refine ⟨((d.ready i, ()), ()), rfl, ite_ok (fun h => ?_) fun h => ?_⟩
  · have h : d.ready i ≠ 0 := by simpa using h
    simp only [DM.write, if_pos h]
    exact ⟨rfl, same⟩
  have hr : ¬ d.ready i ≠ 0 := by simpa using h
  have hri : d.dead = false ∧ 0 ≤ i ∧ i < d.plat.length := by
    have h : d.ready i = 0 := by simpa using h
    unfold DM.ready at h
    cases hd : d.dead with
    | true => rw [hd] at h; simp at h
    | false =>
      rw [hd] at h
      simp only [Bool.false_eq_true, if_false] at h
      split at h
      · cases h
      · exact ⟨rfl, by omega, by omega⟩
  obtain ⟨hdead, hi0, hi1⟩ := hri
  obtain ⟨n, rfl⟩ := Int.eq_ofNat_of_zero_le hi0
  refine ite_ok (fun h => ?_) fun h => ?_
  · have h : s.data.toList.length ≠ 64 := by rw [hsl]; intro e; rw [e] at h; simp at h
    simp only [DM.write, if_neg hr, if_pos h]
    exact ⟨rfl, same⟩
  have hs64 : s.size = 64 := by have h : (s.size : Int) = 64 := by simpa using h
                                omega
  have hs : ¬ s.data.toList.length ≠ 64 := by rw [hsl]; omega
  refine new_ok fun w1 m4 hm4 hs1 B4 F1 => ?_
  refine stRow_ok (t := 74) (by obtain ⟨i, hi, hs⟩ := info74; exact ⟨i, hi, by rw [hs]; simp⟩) B4 (by simp) (by simp [Value.oneCell']) fun w2 B4' F2 hs2 => ?_
  refine assume_ok rfl (reslice_ok (by omega) (by omega) (by omega) (by omega) ?_)
  have hb4 : List.take 0 (#[Value.int IntKind.i64 0] ++ Array.replicate 64 (Value.int IntKind.u8 0)).toList ++ ((#[Value.int IntKind.i64 (n : Int)] ++ Array.replicate 64 (Value.int IntKind.u8 0)).toList ++ List.drop (0 + (#[Value.int IntKind.i64 (n : Int)] ++ Array.replicate 64 (Value.int IntKind.u8 0)).size) (#[Value.int IntKind.i64 0] ++ Array.replicate 64 (Value.int IntKind.u8 0)).toList) = Value.int IntKind.i64 (n : Int) :: List.replicate 64 (Value.int IntKind.u8 0) := by
    simp
  rw [hb4] at B4'
  refine copyS_ok u75 i5 (t := 74) (l := Value.int IntKind.i64 (n : Int) :: List.replicate 64 (Value.int IntKind.u8 0)) (o := 1) (by simpa using B4') (by rw [hs64]; omega) (by simp; omega) fun w3 B43 F3 hs3 => ?_
  have hb43 : List.take 1 (Value.int IntKind.i64 (n : Int) :: List.replicate 64 (Value.int IntKind.u8 0)) ++ (byteCells s.data.toList ++ List.drop (1 + s.size) (Value.int IntKind.i64 (n : Int) :: List.replicate 64 (Value.int IntKind.u8 0))) = wv (n, s.data.toList) := by
    rw [hs64]; simp [wv, bv, byteCells]; exact fun _ _ => rfl
  rw [hb43] at B43
  refine drew_ok fun w4 F4 hs4 => ?_
  have F04 : Fr noB w w4 := ((F1.then F2 fun y hy h => (show False by unfold oneB at h; omega)).then F3 fun y hy h => (show False by unfold oneB at h; omega)).then F4 fun _ _ h => h
  have D4 := D.fr F04 (fun _ _ h => h)
  have B44 := B43.fr F4 (fun h => h)
  refine nn_ok (D4.blk.ldS (o := 1) rfl ?_)
  have hwl : (wv (n, s.data.toList)).length = 65 := wv_length (by rw [hsl]; exact hs64)
  refine B44.ldRow (cs := wv (n, s.data.toList)) hwl (fun j v hj => by rw [Nat.zero_add]; exact hj) (assume_ok (by rw [c74]; simp [hwl]) ?_)
  refine new_ok fun w5 m12 hm12 hs5 B12 F5 => ?_
  have D5 := D4.fr F5 (fun _ _ h => h)
  refine keep_cons (D5.blk.held1 (o := 1) rfl) (keep_nil ?_)
  obtain ⟨i0, z, hi, hz, hz1, hz2, hz3⟩ := row74
  refine append_ok u59 hi hz hz1 hz2 hz3 (by omega) (s := ⟨cs.a, cs.n, cs.c⟩) D5.cache (m := 1) (news := wv (n, s.data.toList)) (by rw [hwl]) ?_ wv_one (by unfold maxLen; omega) (by omega) ?_
  · refine B12.held fun j v hj => ?_
    rw [Nat.zero_add]
    exact hj
  intro cs' w6 hown F6 hnew
  have hF6 : Fr (fun k => ∃ a, cs.a = some a ∧ a.block = k) w5 w6 := F6
  have BD6 := D5.blk.fr hF6 (by rintro ⟨a, ha, hb⟩; exact (D.s2 a ha).1 hb)
  refine nn_ok (BD6.st (o := 1) rfl (by simp) fun w7 BD7 F7 => ?_)
  have F05 : Fr noB w w5 := F04.then F5 (fun _ _ h => h)
  -- the new blocks are none of the old ones
  have hcs' : ∀ a, cs'.a = some a → cs.a = some a ∨ (w.heap.size ≤ a.block ∧ a.block < w6.heap.size) := fun a ha => (hnew a ha).imp id fun h => ⟨Nat.le_trans F05.size h.1, h.2⟩
  have hpl := D.plat.lt
  have hpp := D.blk.lt
  have s2' : ∀ a, cs'.a = some a → a.block ≠ p ∧ a.block ≠ bp := fun a ha => by
    rcases hcs' a ha with h | h
    · exact D.s2 a h
    · omega
  have hown7 : w7.ownsRow 0 74 65 (.slice cs'.a cs'.n cs'.c) (d.cache.length + 1) (d.cache.flatMap wv ++ wv (n, s.data.toList)) := own_cell hown F7 fun b e hb => by
    simp only [Value.ownBlock] at e
    cases ha : cs'.a with
    | none => simp [ha] at e
    | some a => simp [ha] at e; exact (s2' a ha).1 (e.trans hb)
  have hks : d.keep ≠ [] → ∀ a, ks.a = some a → a.block < w.heap.size := fun hl a ha => by
    obtain ⟨a', ha', hh⟩ := D.keep.2 hl
    rw [ha] at ha'
    cases ha'
    cases hk : d.keep with
    | nil => exact absurd hk hl
    | cons x l =>
      have := hh 0 (.bool x) (by rw [hk]; rfl)
      have := World.block_lt_of_cell? w _ this
      rwa [Addr.add_zero'] at this
  have D7 : Disk w7 p (d.wrote n s.data.toList) bp cs' ks := {
    blk := by simpa [DM.cells, DM.wrote] using BD7
    plat := (D5.plat.fr hF6 (by rintro ⟨a, ha, hb⟩; exact (D.s2 a ha).2 hb)).fr F7 (fun e => D.s1 e.symm)
    len := D.len
    pos := D.pos
    big := D.big
    cache := by simpa [DM.wrote] using hown7
    cwf := fun x hx => by
      rcases List.mem_append.1 hx with hx | hx
      · exact D.cwf x hx
      · rw [List.mem_singleton.1 hx]; exact ⟨by have : (n : Int) < d.plat.length := hi1
                                                show n < d.plat.length
                                                omega, by rw [hsl]; exact hs64⟩
    keep := (D5.keep.fr hF6 (fun hl a ha => by rintro ⟨c, hc, hb⟩; exact (D.s3 hl a ha).2.2 c hc hb.symm)).fr F7 (fun hl a ha hb => (D.s3 hl a ha).1 hb)
    arm0 := D.arm0
    armU := D.armU
    ops0 := D.ops0
    s1 := D.s1
    s2 := s2'
    s3 := fun hl a ha => ⟨(D.s3 hl a ha).1, (D.s3 hl a ha).2.1, fun c hc => by
      rcases hcs' c hc with h | h
      · exact (D.s3 hl a ha).2.2 c h
      · have := hks hl a ha; omega⟩ }
  have hcsB : ∀ k, (∃ a, cs.a = some a ∧ a.block = k) → B k := fun k h => hB k (.inr (.inr (.inl h)))
  have F07 : Fr B w w7 := ((F05.mono (fun _ _ h => h.elim)).then hF6 (fun _ _ h => hcsB _ h)).then F7 (fun _ _ h => by rw [show _ = p from h]; exact hB p (.inl rfl))
  refine call_ok (falls_ok D7 (by exact ho)) ?_
  rintro _ w8 ⟨rfl, D8, F8⟩
  refine ⟨((d.armed == 1, ()), ()), rfl, ?_⟩
  have F08 : Fr B w w8 := F07.then F8 (fun _ _ h => by rw [show _ = p from h]; exact hB p (.inl rfl))
  have hblk : ∀ k, Disk.blocks p bp cs' ks (d.wrote n s.data.toList).fell.keep k → Grow B w w8 k := by
    rintro k (h | h | ⟨a, ha, h⟩ | h)
    · exact .inl (hB k (.inl h))
    · exact .inl (hB k (.inr (.inl h)))
    · rcases hcs' a ha with h' | h'
      · exact .inl (hB k (.inr (.inr (.inl ⟨a, h', h⟩))))
      · have := F7.size; have := F8.size
        exact .inr ⟨by omega, by omega⟩
    · exact .inl (hB k (.inr (.inr (.inr h))))
  refine ite_ok (fun h => ?_) fun h => ?_
  · have ha1 : d.armed = 1 := by simpa using h
    simp only [DM.write, if_neg hr, if_neg hs, if_pos ha1, Int.toNat_natCast]
    refine nn_ok (D8.blk.ldS (o := 2) rfl (D8.blk.ld (o := 3) rfl (D8.blk.ld (o := 4) rfl ?_)))
    refine call_ok (drop_ok D8 ⟨ks.a, ks.n, ks.c⟩ d.keep d.torn d.cut D8.keep (fun hl a ha => (D.s3 hl a ha).2.1)) ?_
    rintro _ w9 ⟨rfl, D9, F9⟩
    refine ⟨(), rfl, ?_⟩
    refine ⟨rfl, ⟨bp, _, _, D9, ?_⟩, F08.then F9 ?_⟩
    · rintro k (h | h | ⟨a, ha, h⟩ | ⟨h, _⟩)
      · exact .inl (hB k (.inl h))
      · exact .inl (hB k (.inr (.inl h)))
      · cases ha
      · exact absurd rfl h
    · rintro k _ (h | h)
      · exact hB k (.inl h)
      · exact hB k (.inr (.inl h))
  · have ha1 : ¬ d.armed = 1 := by simpa using h
    simp only [DM.write, if_neg hr, if_neg hs, if_neg ha1, Int.toNat_natCast]
    exact ⟨rfl, ⟨bp, cs', ks, D8, hblk⟩, F08⟩
end Go.Proofs.Ytmklfedlifcoiaa
