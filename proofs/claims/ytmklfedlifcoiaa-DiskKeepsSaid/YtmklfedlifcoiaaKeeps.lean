/- DiskKeeps: its contract. -/
import Derived.Test.YtmklfedlifcoiaaFall
namespace Go.Proofs.Ytmklfedlifcoiaa
open Go.Lift

section
variable {w0 w w2 : World} {p : Nat} {d : DM} {X : (Nat → Prop) → World → Prop}
/-- a crash by a fall that was laid behind the disk -/
theorem Sep.crash2 (hX : Stable X) (O : Sep w0 w p d X) (F : Fr noB w w2) (f : Sl) (keep : List Bool) (torn cut : Int) (hf : RdB w2 f keep) (hfs : keep ≠ [] → ∀ a, f.a = some a → w.heap.size ≤ a.block) :
    Calls Try.prog 14 #[.pointer (some ⟨p, 0, none⟩), .agg #[.slice f.a f.n f.c, .int .i64 torn, .int .i64 cut]] w2 fun e w' =>
      e = .returned (.int .i64 (d.ready 0)) ∧ Sep w0 w' p (if d.ready 0 ≠ 0 then d else d.dropped keep torn cut) X := by
  obtain ⟨B, C, hD, hx, hd, hb, h0⟩ := O
  refine (crash_ok (hD.fr F (fun _ _ h => h)) f keep torn cut hf (fun hl a ha hba => by have := hb _ (.inl hba); have := hfs hl a ha; omega)).mono ?_
  rintro e w' ⟨he, hD', F'⟩
  have hs := F.size
  have hs' := F'.size
  refine ⟨he, B, C, hD', hX _ _ _ _ (hX _ _ _ _ hx F (fun _ _ h => h)) F' (fun k hc hk => hd k hk hc), hd, fun k hk => ?_, (h0.then F (fun _ _ h => h)).then F' (fun k hk h => by have := hb k (.inl h); omega)⟩
  have := hb k hk
  omega
end

theorem rep_true (k : Nat) : (List.replicate k true).map Value.bool ++ [Value.bool true] = (List.replicate (k + 1) true).map Value.bool := by
  rw [List.replicate_succ', List.map_append]
  rfl

set_option maxRecDepth 100000 in
set_option maxHeartbeats 4000000 in
theorem keeps_ok {w0 : World} (l0 : Sl) (l : List (Int × ByteArray)) (hl : RdP w0 l0 l) (l1 : Sl) (m : List (Int × ByteArray)) (hm : RdP w0 l1 m) (more : Int) :
    Calls Try.prog 5 #[.slice l0.a l0.n l0.c, .slice l1.a l1.n l1.c, .int .i64 more] w0 fun e w' => e = .returned (.bool true) ∧ Fr noB w0 w' := by
  apply c5
  unfold t5
  have hn0 := hl.1
  have hn1 := hm.1
  refine join1_ok (c := .bool) (fun (b : Bool) w' => (b = false → l.length ≤ 100 ∧ m.length ≤ 100) ∧ w' = w0) (fun k hk => ?_) ?_
  · refine ite_ok (fun h => hk _ _ ⟨(fun e => by cases e), rfl⟩) fun h => hk _ _ ⟨fun e => ?_, rfl⟩
    simp only [decide_eq_false_iff_not] at h e
    omega
  rintro b w0' ⟨hb, hw⟩
  replace hw := hw.symm
  subst hw
  refine ite_ok (fun h => callB_ok awake_ok fun w' F => ⟨rfl, F⟩) fun h => ?_
  obtain ⟨hl100, hm100⟩ := hb h
  refine join0_ok (fun w' => Fr noB w0 w') (fun kend hkend => ?_) (fun w' F => callB_ok awake_ok fun w2 F2 => ⟨rfl, F.then F2 fun _ _ h => h⟩)
  refine loop1_ok (c := .int .i64) (fun (i : Int) w' => ∃ k : Nat, i = (k : Int) ∧ k ≤ 2 ∧ Fr noB w0 w') (fun (i : Int) => 2 - i.toNat) ?_ ⟨0, rfl, by omega, Fr.refl _ _⟩
  rintro rec i w1 ⟨i, rfl, hi2, F1⟩ hrec
  refine ite_ok (fun hlt => ?_) (fun hge => hkend _ F1)
  have hlt : i < 2 := by simp only [decide_eq_true_eq] at hlt; omega
  refine join0_ok (fun w' => Fr noB w0 w') (fun k9 hk9 => ?_) (fun w' F => ?_)
  rotate_left
  · refine hrec _ _ ⟨i + 1, ?_, hlt, F⟩ ?_
    · rw [wrap_ok (by omega) (by omega)]; omega
    · rw [wrap_ok (by omega) (by omega), Int.toNat_natCast]; omega
  refine callPI_ok (new_lone F1 9 (by omega) (by omega)) fun p w2 O2 => ?_
  have O2 : Sep w0 w2 p (DM.new 9) Lone := O2
  have q0 : Quiet (DM.new 9) := ⟨rfl, rfl⟩
  have T1 := puts_to q0 l
  have p9 : ((DM.new 9).puts l).plat.length = 9 := by rw [T1.plat]; simp [DM.new]
  have c1 : ((DM.new 9).puts l).cache.length ≤ 100 := by have := T1.len; rw [T1.cache]; simp [DM.new] at this ⊢; omega
  have o1 : ((DM.new 9).puts l).ops ≤ 100 := by have := T1.ops; simp [DM.new] at this ⊢; omega
  obtain ⟨ef, q2⟩ := flush_quiet T1.quiet (by omega)
  have l2 : ∀ x ∈ ((DM.new 9).puts l).flushed.plat, x.length = 64 := flushL_len _ _ (fun x hx => by
    rw [T1.cache] at hx
    simp only [DM.new, List.nil_append] at hx
    exact entries_len x hx) (by rw [T1.plat]; exact new_len)
  have p2 : ((DM.new 9).puts l).flushed.plat.length = 9 := (flushL_length _ _).trans p9
  have o2 : ((DM.new 9).puts l).flushed.ops ≤ 101 := by show ((DM.new 9).puts l).ops + 1 ≤ _; omega
  have c2 : ((DM.new 9).puts l).flushed.cache = [] := rfl
  generalize ((DM.new 9).puts l).flushed = d2 at *
  refine join1_ok (c := .bool) (fun (b : Bool) w' => b = false ∧ Sep w0 w' p d2 Lone) (fun k hk => ?_) ?_
  · refine ite_no rfl (ite_no rfl ?_)
    refine callB_ok (O2.puts stable_lone l0 l hl q0 (by simp [DM.new]; omega) (by simp [DM.new]; omega)) fun w3 O3 => ite_no rfl ?_
    have hc := O3.flush stable_lone (by omega)
    rw [ef] at hc
    exact callI_ok hc fun w4 O4 => hk _ _ ⟨rfl, O4⟩
  rintro _ w4 ⟨rfl, O4⟩
  refine ite_no rfl ?_
  refine callS_ok (O4.image stable_lone) fun w5 O5 => ?_
  have T2 := puts_to q2 m
  have p3 : (d2.puts m).plat.length = 9 := by rw [T2.plat]; exact p2
  have r3 : (d2.puts m).ready 0 = 0 := ready_quiet T2.quiet (by omega)
  have c3' : ∀ x ∈ (d2.puts m).cache, x.2.length = 64 := fun x hx => by
    rw [T2.cache, c2] at hx
    exact entries_len x (by simpa using hx)
  have c3l : (d2.puts m).cache.length ≤ m.length := by have := T2.len; rw [T2.cache, c2]; simpa using this
  have l3 : ∀ x ∈ (d2.puts m).plat, x.length = 64 := by rw [T2.plat]; exact l2
  have im2 : d2.image = rows (d2.puts m).plat := by
    show rows (flushL d2.cache d2.plat) = _
    rw [c2, T2.plat]
    rfl
  refine callB_ok (O5.puts stable_lone l1 m hm q2 (by rw [c2]; simp; omega) (by omega)) fun w6 O6 => ite_no rfl ?_
  obtain ⟨torn, htorn⟩ : ∃ t : Int, t = if (0 : Int) < more then 0 else more := ⟨_, rfl⟩
  rw [← htorn]
  have ht : torn ≤ 0 := by rw [htorn]; split <;> omega
  refine new_ok fun w7 m22 hm22 hs7 B7 F7 => ?_
  refine B7.st (o := 0) rfl (by simp) fun w8 B8 F8 => B8.st (o := 1) rfl (by simp) fun w9 B9 F9 => B9.st (o := 2) rfl (by simp) fun w10 B10 F10 => ?_
  have F610 : Fr noB w6 w10 := ((F7.then F8 fun y hy h => (show False by unfold oneB at h; omega)).then F9 fun y hy h => (show False by unfold oneB at h; omega)).then F10 fun y hy h => (show False by unfold oneB at h; omega)
  refine join1_ok (c := .str) (fun (s : ByteArray) w' => ∃ (ks : Sl) (keep : List Bool), Blk w' m22 25 [.slice ks.a ks.n ks.c, .int .i64 torn, .int .i64 0] ∧ RdB w' ks keep ∧ (keep ≠ [] → ∀ a, ks.a = some a → w6.heap.size ≤ a.block) ∧ Fr noB w6 w' ∧
      s = ((d2.puts m).dropped keep torn 0).image) (fun k23 hk23 => ?_) ?_
  · refine ite_ok (fun h1 => ?_) (fun h1 => ?_)
    rotate_left
    · refine hk23 _ _ ⟨⟨none, 0, 0⟩, [], by simpa using B10, ⟨rfl, fun h => absurd rfl h⟩, fun h => absurd rfl h, F610, ?_⟩
      show d2.image = rows (dropL [] torn 0 0 (d2.puts m).cache (d2.puts m).plat)
      rw [dropL_none torn 0 ht, im2]
    · obtain ⟨Bd, _, hD, _⟩ := O6.fr stable_lone F610
      refine callS_ok (image_ok hD) fun w11 F1011 => ?_
      have hm22' : m22 < w10.heap.size := B10.lt
      have B11 : Blk w11 m22 25 [.slice none 0 0, .int .i64 torn, .int .i64 0] := by simpa using B10.fr F1011 (fun h => h)
      refine join0_ok (fun w' => ∃ ks : Sl, Blk w' m22 25 [.slice ks.a ks.n ks.c, .int .i64 torn, .int .i64 0] ∧ w'.ownsRow 0 4 1 (.slice ks.a ks.n ks.c) m.length ((List.replicate m.length true).map Value.bool) ∧
        (∀ a, ks.a = some a → w6.heap.size ≤ a.block ∧ a.block ≠ m22) ∧ Fr noB w6 w') (fun k25 hk25 => ?_) (fun w' ⟨ks, hB, hown, hfs, F⟩ => ?_)
      rotate_left
      · refine hk23 _ _ ⟨ks, List.replicate m.length true, hB, RdB.of_own (by simpa using hown), fun _ a ha => (hfs a ha).1, F, ?_⟩
        show rows (flushL (d2.puts m).cache (d2.puts m).plat) = rows (dropL (List.replicate m.length true) torn 0 0 (d2.puts m).cache (d2.puts m).plat)
        rw [dropL_all m.length torn 0 ht _ 0 _ (by omega) c3' l3]
      refine loop1_ok (c := .int .i64) (fun (i : Int) w' => ∃ (k : Nat) (ks : Sl), i = (k : Int) ∧ k ≤ m.length ∧ Blk w' m22 25 [.slice ks.a ks.n ks.c, .int .i64 torn, .int .i64 0] ∧
        w'.ownsRow 0 4 1 (.slice ks.a ks.n ks.c) k ((List.replicate k true).map Value.bool) ∧ (∀ a, ks.a = some a → w6.heap.size ≤ a.block ∧ a.block ≠ m22) ∧ Fr noB w6 w') (fun (i : Int) => m.length - i.toNat) ?_
        ⟨0, ⟨none, 0, 0⟩, rfl, Nat.zero_le _, B11, World.ownsRow_nil _ _ _ _, fun a ha => (by cases ha), F610.then F1011 (fun _ _ h => h)⟩
      rintro rec2 i2 w12 ⟨k, ks, rfl, hk, B12, hown, hfs, F12⟩ hrec2
      refine ite_ok (fun hlt2 => ?_) (fun hge2 => ?_)
      rotate_left
      · have hge2 : k = m.length := by simp only [decide_eq_false_iff_not] at hge2; omega
        subst hge2
        exact hk25 _ ⟨ks, B12, hown, hfs, F12⟩
      have hlt2 : k < m.length := by simp only [decide_eq_true_eq] at hlt2; omega
      refine join_in (B12.ldS (o := 0) rfl (assume_ok rfl (new_ok fun w13 m30 hm30 hs13 B30 F13 => ?_)))
      obtain ⟨i0, z, hi, hz, hz1, hz2, hz3⟩ := row4
      have hown13 := own_cell hown F13 (fun _ _ h => h)
      refine append_ok u23 hi hz hz1 hz2 hz3 (by omega) (s := ⟨ks.a, ks.n, ks.c⟩) hown13 (m := 1) (news := [.bool true]) rfl (B30.held fun j v hj => by rw [Nat.zero_add]; exact hj) (fun u hu => by rw [List.mem_singleton.1 hu]; rfl) (by unfold maxLen; omega) (by omega) ?_
      intro s' w14 hown14 F14 hnew14
      have hlt12 := B12.lt
      have hs13' : w12.heap.size ≤ w13.heap.size := F13.size
      have hne : ∀ a, s'.a = some a → w6.heap.size ≤ a.block ∧ a.block ≠ m22 := fun a ha => by
        rcases hnew14 a ha with h | h
        · exact hfs a h
        · have := F12.size; omega
      have B14 := (B12.fr F13 (fun h => h)).fr F14 (by rintro ⟨a, ha, hb⟩; exact (hfs a ha).2 hb)
      refine B14.st (o := 0) rfl (by simp) fun w15 B15 F15 => ?_
      have F615 : Fr noB w6 w15 := ((F12.then F13 (fun _ _ h => h)).then F14 (by rintro y hy ⟨a, ha, hb⟩; have := (hfs a ha).1; omega)).then F15 (fun y hy h => (show False by unfold oneB at h; omega))
      refine hrec2 _ _ ⟨k + 1, s', ?_, hlt2, by simpa using B15, ?_, hne, F615⟩ ?_
      · rw [wrap_ok (by omega) (by omega)]; omega
      · rw [← rep_true]
        refine own_cell hown14 F15 fun b e hb => ?_
        simp only [Value.ownBlock] at e
        cases ha : s'.a with
        | none => simp [ha] at e
        | some a => simp [ha] at e; exact (hne a ha).2 (e.trans hb)
      · rw [wrap_ok (by omega) (by omega), Int.toNat_natCast]; omega
  rintro s w11 ⟨ks, keep, B11, hrd, hfs, F11, rfl⟩
  have O11 := O6.fr stable_lone F11
  refine join1_ok (c := .bool) (fun (b : Bool) w' => b = false ∧ Fr noB w0 w') (fun k33 hk33 => ?_) ?_
  · refine B11.ldS (o := 0) rfl (B11.ld (o := 1) rfl (B11.ld (o := 2) rfl ?_))
    have hcr := O6.crash2 stable_lone F11 ks keep torn 0 hrd hfs
    rw [r3] at hcr
    refine callI_ok hcr fun w12 O12 => ite_no rfl ?_
    rw [if_neg (by decide)] at O12
    refine callS_ok (O12.image stable_lone) fun w13 O13 => ite_no (by simp) ?_
    refine callI_ok (O13.boot stable_lone) fun w14 O14 => ite_no rfl ?_
    refine callS_ok (O14.image stable_lone) fun w15 O15 => ?_
    refine ite_no (by show (!(DM.image _).toList == (DM.image _).toList) = false; simp [DM.image]) ?_
    exact callB_ok (O15.dead stable_lone) fun w16 O16 => hk33 _ _ ⟨rfl, O16.fr0⟩
  · rintro _ w12 ⟨rfl, F12⟩
    exact ite_no rfl (hk9 _ F12)
end Go.Proofs.Ytmklfedlifcoiaa
