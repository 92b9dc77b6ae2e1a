/- The disk's methods, further: making one, arming, crashing, booting, and what it tells. -/
import Derived.Test.YtmklfedlifcoiaaDiskB
namespace Go.Proofs.Ytmklfedlifcoiaa
open Go.Lift

theorem made_rep (c : Value) (k n : Nat) (hk : 0 < k) : (madeCells (Array.replicate k c) n).toList = List.replicate n c := by
  rw [List.eq_replicate_iff]
  refine ⟨by simp [madeCells], fun b hb => ?_⟩
  simp only [madeCells, Array.toList_map, List.mem_map] at hb
  obtain ⟨a, _, rfl⟩ := hb
  have : a % k < k := Nat.mod_lt _ hk
  simp [this]
theorem flat_rep (n m : Nat) (b : UInt8) : (List.replicate n (List.replicate m b)).flatMap bv = List.replicate (n * m) (u8 b) := by
  induction n with
  | zero => simp
  | succ n ih => rw [List.replicate_succ, List.flatMap_cons, ih, Nat.succ_mul, Nat.add_comm, ← List.replicate_append_replicate]; simp [bv]

theorem u58 : Try.prog.underlying 58 = some (.slice 72) := by kernel_rfl
theorem u23 : Try.prog.underlying 23 = some (.slice 4) := by kernel_rfl
theorem row72 : ∃ i z, Try.prog.info? 72 = some i ∧ i.zero = some z ∧ i.size = 64 ∧ i.bytes = 64 ∧ z.cells = Array.replicate 64 (.int .u8 0) := by
  have h : (Try.prog.info? 72).map (fun i => (i.size, i.bytes, i.zero.map (·.cells))) = some (64, 64, some (Array.replicate 64 (.int .u8 0))) := by kernel_rfl
  cases hi : Try.prog.info? 72 with
  | none => rw [hi] at h; cases h
  | some i =>
    rw [hi] at h
    simp only [Option.map_some, Option.some.injEq, Prod.mk.injEq] at h
    cases hz : i.zero with
    | none => rw [hz] at h; simp at h
    | some z => rw [hz] at h; exact ⟨i, z, rfl, hz, h.1, h.2.1, by simpa using h.2.2⟩
theorem row4 : ∃ i z, Try.prog.info? 4 = some i ∧ i.zero = some z ∧ i.size = 1 ∧ i.bytes = 1 ∧ z.cells.size = 1 := by
  have h : (Try.prog.info? 4).map (fun i => (i.size, i.bytes, i.zero.map (·.cells.size))) = some (1, 1, some 1) := by kernel_rfl
  cases hi : Try.prog.info? 4 with
  | none => rw [hi] at h; cases h
  | some i =>
    rw [hi] at h
    simp only [Option.map_some, Option.some.injEq, Prod.mk.injEq] at h
    cases hz : i.zero with
    | none => rw [hz] at h; simp at h
    | some z => rw [hz] at h; exact ⟨i, z, rfl, hz, h.1, h.2.1, by simpa using h.2.2⟩

def DM.new (n : Nat) : DM := { plat := List.replicate n (List.replicate 64 0), cache := [], keep := [], torn := 0, cut := 0, armed := 0, ops := 0, dead := false }

theorem new_disk_ok {w : World} (n : Int) : Calls Try.prog 10 #[.int .i64 n] w fun e w' =>
    if n < 1 ∨ n > 4096 then e = .returned (.tuple #[.pointer none, .int .i64 2]) ∧ w' = w else
      ∃ p, e = .returned (.tuple #[.pointer (some ⟨p, 0, none⟩), .int .i64 0]) ∧ DAt w' p (DM.new n.toNat) (Grow noB w w') ∧ Fr noB w w' := by
  apply c10
  unfold t10
  by_cases hn : n < 1 ∨ n > 4096
  · simp only [if_pos hn]
    refine join1_ok (c := .bool) (fun (y : Bool) w' => y = true ∧ w' = w) (fun kj hkj => ?_) ?_
    · exact ite_ok (fun _ => hkj _ _ ⟨rfl, rfl⟩) fun h => hkj _ _ ⟨by simp at h ⊢; omega, rfl⟩
    · rintro y w' ⟨rfl, rfl⟩
      exact ite_yes rfl ⟨rfl, rfl⟩
  · simp only [if_neg hn]
    refine join1_ok (c := .bool) (fun (y : Bool) w' => y = false ∧ w' = w) (fun kj hkj => ?_) ?_
    · exact ite_ok (fun h => by simp at h; omega) fun h => hkj _ _ ⟨by simp; omega, rfl⟩
    · rintro y w' ⟨rfl, rfl⟩
      obtain ⟨i, z, hi, hz, h1, h2, h3⟩ := row72
      refine ite_no rfl (make_ok u58 hi hz (by omega) (by omega) (by rw [h2]; omega) (by omega) fun w1 b1 hb1 hs1 B1 F1 => ?_)
      refine new_ok fun w2 b2 hb2 hs2 B2 F2 => ?_
      obtain ⟨m, rfl⟩ := Int.eq_ofNat_of_zero_le (show 0 ≤ n by omega)
      simp only [Int.toNat_natCast] at B1 B2 ⊢
      rw [h3, made_rep _ _ _ (by omega), h1] at B1
      refine ⟨b2, rfl, ⟨b1, ⟨none, 0, 0⟩, ⟨none, 0, 0⟩, ?_, ?_⟩, F1.then F2 fun _ _ h => h⟩
      · exact {
          blk := by simpa [DM.cells, DM.new] using B2
          plat := by rw [DM.new, flat_rep]; exact B1.fr F2 (fun h => h)
          len := fun s hs => by rw [(List.mem_replicate.1 hs).2]; simp
          pos := by simp [DM.new]; omega
          big := by simp [DM.new]; omega
          cache := World.ownsRow_nil _ _ _ _
          cwf := fun x hx => by simp [DM.new] at hx
          keep := ⟨rfl, fun h => absurd rfl h⟩
          arm0 := Int.le_refl _
          armU := by simp [DM.new]
          ops0 := Int.le_refl _
          s1 := by omega
          s2 := fun a ha => by cases ha
          s3 := fun h => absurd rfl h }
      · rintro k (h | h | ⟨a, ha, h⟩ | ⟨h, _⟩)
        · exact .inr ⟨by omega, by omega⟩
        · exact .inr ⟨by omega, by omega⟩
        · cases ha
        · exact absurd rfl h

theorem crash_ok {w : World} {p : Nat} {d : DM} {B : Nat → Prop} (D0 : DAt w p d B) (f : Sl) (keep : List Bool) (torn cut : Int) (hf : RdB w f keep) (hfs : keep ≠ [] → ∀ a, f.a = some a → ¬ B a.block) :
    Calls Try.prog 14 #[.pointer (some ⟨p, 0, none⟩), .agg #[.slice f.a f.n f.c, .int .i64 torn, .int .i64 cut]] w fun e w' =>
      e = .returned (.int .i64 (d.ready 0)) ∧ DAt w' p (if d.ready 0 ≠ 0 then d else d.dropped keep torn cut) B ∧ Fr B w w' := by
  obtain ⟨bp, cs, ks, D, hB⟩ := D0
  apply c14
  unfold t14
  refine new_ok fun w1 m4 hm4 hs1 B4 F1 => ?_
  have D1 := D.fr F1 (fun _ _ h => h)
  refine call_ok (ready_ok D1 0) ?_
  rintro _ w' ⟨rfl, hw'⟩
  replace hw' := hw'.symm
  subst hw'
  refine ⟨((d.ready 0, ()), ()), rfl, ite_ok (fun h => ?_) fun h => ?_⟩
  · have h : d.ready 0 ≠ 0 := by simpa using h
    rw [if_pos h]
    exact ⟨rfl, ⟨bp, cs, ks, D1, hB⟩, F1.mono fun _ _ h => h.elim⟩
  · have h : d.ready 0 = 0 := by simpa using h
    rw [if_neg (by simpa using h), h]
    refine B4.ldS (o := 0) rfl (B4.ld (o := 1) rfl (B4.ld (o := 2) rfl ?_))
    refine call_ok (drop_ok D1 ⟨f.a, f.n, f.c⟩ keep torn cut (hf.fr F1 (fun _ _ _ h => h)) (fun hl a ha e => hfs hl a ha (hB _ (.inr (.inl e))))) ?_
    rintro _ w9 ⟨rfl, D9, F9⟩
    refine ⟨(), rfl, rfl, ⟨bp, _, _, D9, ?_⟩, (F1.mono fun _ _ h => h.elim).then F9 ?_⟩
    · rintro k (h | h | ⟨a, ha, h⟩ | ⟨h, _⟩)
      · exact hB k (.inl h)
      · exact hB k (.inr (.inl h))
      · cases ha
      · exact absurd rfl h
    · rintro k _ (h | h)
      · exact hB k (.inl h)
      · exact hB k (.inr (.inl h))

theorem boot_ok {w : World} {p : Nat} {d : DM} {B : Nat → Prop} (D0 : DAt w p d B) : Calls Try.prog 20 #[.pointer (some ⟨p, 0, none⟩)] w fun e w' =>
    e = .returned (.int .i64 0) ∧ DAt w' p { d with dead := false } B ∧ Fr B w w' := by
  obtain ⟨bp, cs, ks, D, hB⟩ := D0
  apply c20
  unfold t20
  refine call_ok (none_ok D) ?_
  rintro _ w' ⟨rfl, hw'⟩
  replace hw' := hw'.symm
  subst hw'
  refine ⟨((false, ()), ()), rfl, ite_no rfl (nn_ok (D.blk.st (o := 7) rfl (by simp) fun w1 B1 F1 => ⟨rfl, ⟨bp, cs, ks, ?_, hB⟩, F1.mono fun _ _ h => by rw [show _ = p from h]; exact hB p (.inl rfl)⟩))⟩
  exact D.upd (d' := { d with dead := false }) B1 F1 rfl rfl rfl D.arm0 D.armU D.ops0

theorem dead_ok {w : World} {p : Nat} {d : DM} {B : Nat → Prop} (D0 : DAt w p d B) : Calls Try.prog 15 #[.pointer (some ⟨p, 0, none⟩)] w fun e w' => e = .returned (.bool d.dead) ∧ w' = w := by
  obtain ⟨bp, cs, ks, D, hB⟩ := D0
  apply c15
  unfold t15
  refine join_in (call_ok (none_ok D) ?_)
  rintro _ w' ⟨rfl, hw'⟩
  replace hw' := hw'.symm
  subst hw'
  exact ⟨((false, ()), ()), rfl, ite_yes rfl (nn_ok (D.blk.ld (o := 7) rfl ⟨rfl, rfl⟩))⟩
theorem ops_ok {w : World} {p : Nat} {d : DM} {B : Nat → Prop} (D0 : DAt w p d B) : Calls Try.prog 17 #[.pointer (some ⟨p, 0, none⟩)] w fun e w' => e = .returned (.int .i64 d.ops) ∧ w' = w := by
  obtain ⟨bp, cs, ks, D, hB⟩ := D0
  apply c17
  unfold t17
  refine call_ok (none_ok D) ?_
  rintro _ w' ⟨rfl, hw'⟩
  replace hw' := hw'.symm
  subst hw'
  exact ⟨((false, ()), ()), rfl, ite_no rfl (nn_ok (D.blk.ld (o := 6) rfl ⟨rfl, rfl⟩))⟩
theorem sectors_ok {w : World} {p : Nat} {d : DM} {B : Nat → Prop} (D0 : DAt w p d B) : Calls Try.prog 25 #[.pointer (some ⟨p, 0, none⟩)] w fun e w' => e = .returned (.int .i64 d.plat.length) ∧ w' = w := by
  obtain ⟨bp, cs, ks, D, hB⟩ := D0
  apply c25
  unfold t25
  refine call_ok (none_ok D) ?_
  rintro _ w' ⟨rfl, hw'⟩
  replace hw' := hw'.symm
  subst hw'
  exact ⟨((false, ()), ()), rfl, ite_no rfl (nn_ok (D.blk.ldS (o := 0) rfl ⟨rfl, rfl⟩))⟩

theorem RdB.of_own {w : World} {s : Sl} {l : List Bool} (h : w.ownsRow 0 4 1 (.slice s.a s.n s.c) l.length (l.map Value.bool)) : RdB w s l := by
  rcases h.2 with ⟨hv, hn⟩ | ⟨g, cap, cur, hv, _, hg, _⟩
  · simp only [Value.slice.injEq] at hv
    exact ⟨by omega, fun hl => absurd (List.eq_nil_of_length_eq_zero hn) hl⟩
  · have hv' := hv
    simp only [Value.slice.injEq] at hv'
    refine ⟨hv'.2.1, fun _ => ⟨_, hv'.1, fun j v hj => ?_⟩⟩
    have := h.cells (g := g) (by rw [hv'.1]; rfl) j v hj
    exact this

theorem clone31_ok {w : World} (s : Sl) (l : List Bool) (h : RdB w s l) (hl : l.length ≤ 140737488351232) : Calls Try.prog 31 #[.slice s.a s.n s.c] w fun e w' =>
    ∃ s' : Sl, e = .returned (.slice s'.a s'.n s'.c) ∧ RdB w' s' l ∧ Fr noB w w' ∧ ∀ a, s'.a = some a → w.heap.size ≤ a.block ∧ a.block < w'.heap.size := by
  apply c31
  unfold t31
  obtain ⟨sa, sn, sc⟩ := s
  cases sa with
  | none =>
    have hl0 : l = [] := by
      cases l with
      | nil => rfl
      | cons x l => obtain ⟨a, ha, _⟩ := h.2 (by simp); cases ha
    subst hl0
    exact ite_yes rfl ⟨⟨none, 0, 0⟩, rfl, ⟨rfl, fun h => absurd rfl h⟩, Fr.refl _ _, fun a ha => by cases ha⟩
  | some a =>
    refine ite_no rfl (new_ok fun w1 m1 hm1 hs1 B1 F1 => ?_)
    obtain ⟨i, z, hi, hz, h1, h2, h3⟩ := row4
    have hn : Held w1 (a, l.map Value.bool) := by
      cases l with
      | nil => intro j v hj; simp at hj
      | cons x l =>
        obtain ⟨a', ha', hh⟩ := h.2 (by simp)
        cases ha'
        exact F1.held hh (fun h => h)
    obtain rfl : sn = l.length := h.1
    refine append_ok u23 hi hz h1 h2 h3 (by omega) (s := ⟨some ⟨m1, 0, none⟩, 0, 0⟩) (n := 0) (xs := []) ⟨rfl, .inr ⟨m1, 0, #[], rfl, Nat.zero_le _, B1, Nat.le_refl _, by unfold maxLen; omega, rfl, rfl⟩⟩
      (m := l.length) (news := l.map Value.bool) (by simp) hn (fun v hv => by obtain ⟨b, _, rfl⟩ := List.mem_map.1 hv; rfl) (by unfold maxLen; omega) (by omega) fun s' w2 hown F2 hnew => ?_
    refine ⟨s', rfl, RdB.of_own (by simpa using hown), F1.then F2 ?_, fun a ha => ?_⟩
    · rintro k hk ⟨a, ha, e⟩
      cases ha
      exact absurd e (by show m1 ≠ k; omega)
    · rcases hnew a ha with h | h
      · cases h
        have := F2.size
        exact ⟨by show w.heap.size ≤ m1; omega, by show m1 < _; omega⟩
      · exact ⟨by omega, h.2⟩
end Go.Proofs.Ytmklfedlifcoiaa
