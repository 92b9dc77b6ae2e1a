/- DiskFlushes: its contract. -/
import Derived.Test.YtmklfedlifcoiaaFall
namespace Go.Proofs.Ytmklfedlifcoiaa
open Go.Lift

theorem u42 : Try.prog.underlying 42 = some (.slice 9) := by kernel_rfl
theorem row9 : ∃ i z, Try.prog.info? 9 = some i ∧ i.zero = some z ∧ i.size = 1 ∧ i.bytes = 16 ∧ z.cells.size = 1 := by
  have h : (Try.prog.info? 9).map (fun i => (i.size, i.bytes, i.zero.map (·.cells.size))) = some (1, 16, some 1) := by kernel_rfl
  cases hi : Try.prog.info? 9 with
  | none => rw [hi] at h; cases h
  | some i =>
    rw [hi] at h
    simp only [Option.map_some, Option.some.injEq, Prod.mk.injEq] at h
    cases hz : i.zero with
    | none => rw [hz] at h; simp at h
    | some z => rw [hz] at h; exact ⟨i, z, rfl, hz, h.1, h.2.1, by simpa using h.2.2⟩
theorem RdS.of_own {w : World} {s : Sl} {l : List ByteArray} (h : w.ownsRow 0 9 1 (.slice s.a s.n s.c) l.length (l.map Value.string)) : RdS w s l := by
  rcases h.2 with ⟨hv, hn⟩ | ⟨g, cap, cur, hv, _, hg, _⟩
  · simp only [Value.slice.injEq] at hv
    exact ⟨by omega, fun k x hk => by rw [List.eq_nil_of_length_eq_zero hn] at hk; simp at hk⟩
  · have hv' := hv
    simp only [Value.slice.injEq] at hv'
    refine ⟨hv'.2.1, fun k x hk => ⟨_, hv'.1, ?_⟩⟩
    rw [Nat.mul_one]
    exact h.cells (g := g) (by rw [hv'.1]; rfl) k (.string x) (by simp [hk])

/-- what the law's helper list holds -/
theorem mix_rows {d : DM} {m : List (Int × ByteArray)} (hq : Quiet d) (hc : d.cache = []) (hlen : ∀ x ∈ d.plat, x.length = 64) (keep : List Bool) (torn cut : Int) {i : Nat} (hi : i < d.plat.length) :
    Mix ((DM.image { (d.puts m).dropped keep torn cut with dead := false }).extract (64 * i) (64 * i + 64)) (d.image.extract (64 * i) (64 * i + 64) :: putsAt i m) := by
  have T := puts_to hq m
  have e1 : d.image = rows d.plat := by show rows (flushL d.cache d.plat) = _; rw [hc]; rfl
  have e2 : DM.image { (d.puts m).dropped keep torn cut with dead := false } = rows (dropL keep torn cut 0 (entries d.plat.length m) d.plat) := by
    show rows (dropL keep torn cut 0 (d.puts m).cache (d.puts m).plat) = _
    rw [T.cache, T.plat, hc]
    rfl
  obtain ⟨r, hr⟩ : ∃ r, d.plat[i]? = some r := ⟨_, List.getElem?_eq_getElem hi⟩
  have hr64 := hlen r (List.mem_of_getElem? hr)
  obtain ⟨r', hr', hm⟩ := dropL_row keep torn cut i (entries d.plat.length m) 0 d.plat [r] r hr hr64 entries_len (.inl (by simp))
  have h64 : ∀ x ∈ dropL keep torn cut 0 (entries d.plat.length m) d.plat, x.length = 64 := dropL_len keep torn cut _ 0 _ entries_len hlen
  rw [e1, e2, rows_row hlen hr, rows_row h64 hr', puts_at hi]
  have hb := hm.bytes (fun x hx => by
    rcases List.mem_append.1 hx with hx | hx
    · rw [List.mem_singleton.1 hx]; exact hr64
    · obtain ⟨y, hy, rfl⟩ := List.mem_map.1 hx
      exact entries_len y (List.mem_filter.1 hy).1)
  simpa using hb

set_option maxRecDepth 100000 in
set_option maxHeartbeats 4000000 in
theorem flushes_ok {w0 : World} (l0 : Sl) (l : List (Int × ByteArray)) (hl : RdP w0 l0 l) (l1 : Sl) (m : List (Int × ByteArray)) (hm : RdP w0 l1 m) (f : Sl) (keep : List Bool) (torn cut : Int) (hf : RdB w0 f keep) :
    Calls Try.prog 4 #[.slice l0.a l0.n l0.c, .slice l1.a l1.n l1.c, .agg #[.slice f.a f.n f.c, .int .i64 torn, .int .i64 cut]] w0 fun e w' => e = .returned (.bool true) ∧ Fr noB w0 w' := by
  apply c4
  unfold t4
  refine new_ok fun w1 m5 hm5 hs1 B5 F1 => ?_
  have hf1 := hf.fr0 F1
  have hl1 := hl.fr F1
  have hm1 := hm.fr F1
  have hlow : keep ≠ [] → ∀ a, f.a = some a → a.block < w1.heap.size := hf1.low
  have hn0 := hl.1
  have hn1 := hm.1
  refine join1_ok (c := .bool) (fun (b : Bool) w' => (b = false → l.length ≤ 100 ∧ m.length ≤ 100) ∧ w' = w1) (fun k hk => ?_) ?_
  · refine ite_ok (fun h => hk _ _ ⟨(fun e => by cases e), rfl⟩) fun h => hk _ _ ⟨fun e => ?_, rfl⟩
    simp only [decide_eq_false_iff_not] at h e
    omega
  rintro b w1' ⟨hb, hw⟩
  replace hw := hw.symm
  subst hw
  refine ite_ok (fun h => callB_ok awake_ok fun w' F => ⟨rfl, F1.then F fun _ _ h => h⟩) fun h => ?_
  obtain ⟨hl100, hm100⟩ := hb h
  refine callPI_ok (new_lone (Fr.refl noB w1) 9 (by omega) (by omega)) fun p w2 O2 => ?_
  have O2 : Sep w1 w2 p (DM.new 9) Lone := O2
  have q0 : Quiet (DM.new 9) := ⟨rfl, rfl⟩
  have T1 := puts_to q0 l
  have p9 : ((DM.new 9).puts l).plat.length = 9 := by rw [T1.plat]; simp [DM.new]
  have c1 : ((DM.new 9).puts l).cache.length ≤ 100 := by have := T1.len; rw [T1.cache]; simp [DM.new] at this ⊢; omega
  have o1 : ((DM.new 9).puts l).ops ≤ 100 := by have := T1.ops; simp [DM.new] at this ⊢; omega
  obtain ⟨ef, q2⟩ := flush_quiet T1.quiet (by omega)
  have l2 : ∀ x ∈ ((DM.new 9).puts l).flushed.plat, x.length = 64 := flushL_len _ _ (fun x hx => by
    rw [T1.cache] at hx
    simp only [DM.new, List.nil_append] at hx
    exact entries_len x hx) (by rw [T1.plat]; exact new_len)
  have p2 : ((DM.new 9).puts l).flushed.plat.length = 9 := (flushL_length _ _).trans p9
  have o2 : ((DM.new 9).puts l).flushed.ops ≤ 101 := by show ((DM.new 9).puts l).ops + 1 ≤ _; omega
  have c2 : ((DM.new 9).puts l).flushed.cache = [] := rfl
  generalize ((DM.new 9).puts l).flushed = d2 at *
  refine join1_ok (c := .bool) (fun (b : Bool) w' => b = false ∧ Sep w1 w' p d2 Lone) (fun k hk => ?_) ?_
  · refine ite_no rfl (ite_no rfl ?_)
    refine callB_ok (O2.puts stable_lone l0 l hl1 q0 (by simp [DM.new]; omega) (by simp [DM.new]; omega)) fun w3 O3 => ite_no rfl ?_
    have hc := O3.flush stable_lone (by omega)
    rw [ef] at hc
    exact callI_ok hc fun w4 O4 => hk _ _ ⟨rfl, O4⟩
  rintro _ w4 ⟨rfl, O4⟩
  refine ite_no rfl ?_
  refine callS_ok (O4.image stable_lone) fun w5 O5 => ?_
  have T2 := puts_to q2 m
  have p3 : (d2.puts m).plat.length = 9 := by rw [T2.plat]; exact p2
  have r3 : (d2.puts m).ready 0 = 0 := ready_quiet T2.quiet (by omega)
  have l4 : ∀ x ∈ dropL keep torn cut 0 (d2.puts m).cache (d2.puts m).plat, x.length = 64 := dropL_len keep torn cut _ 0 _ (fun x hx => by
    rw [T2.cache, c2] at hx
    exact entries_len x (by simpa using hx)) (by rw [T2.plat]; exact l2)
  have sz2 : d2.image.size = 576 := by
    show (rows (flushL d2.cache d2.plat)).size = _
    rw [c2]
    show (rows d2.plat).size = _
    rw [rows_size l2, p2]
  have sz4 : (DM.image { (d2.puts m).dropped keep torn cut with dead := false }).size = 576 := by
    show (rows (dropL keep torn cut 0 (d2.puts m).cache (d2.puts m).plat)).size = _
    rw [rows_size l4, dropL_length, p3]
  refine join1_ok (c := .bool) (fun (b : Bool) w' => b = false ∧ Sep w1 w' p { (d2.puts m).dropped keep torn cut with dead := false } Lone) (fun k hk => ?_) ?_
  · refine callB_ok (O5.puts stable_lone l1 m hm1 q2 (by rw [c2]; simp; omega) (by omega)) fun w6 O6 => ite_no rfl ?_
    have B56 := B5.fr O6.fr0 (fun h => h)
    refine B56.ldS (o := 0) rfl (B56.ld (o := 1) rfl (B56.ld (o := 2) rfl ?_))
    have hcr := O6.crash stable_lone f keep torn cut (hf1.fr0 O6.fr0) hlow
    rw [r3] at hcr
    refine callI_ok hcr fun w7 O7 => ite_no rfl ?_
    rw [if_neg (by decide)] at O7
    refine callI_ok (O7.boot stable_lone) fun w8 O8 => ite_no rfl ?_
    exact callS_ok (O8.image stable_lone) fun w9 O9 => hk _ _ ⟨by rw [sz4, sz2]; rfl, O9⟩
  rintro _ w6 ⟨rfl, O6⟩
  refine ite_no rfl ?_
  have hmix := fun (i : Nat) (hi : i < d2.plat.length) => mix_rows (m := m) q2 c2 l2 keep torn cut hi
  generalize hd5 : ({ (d2.puts m).dropped keep torn cut with dead := false } : DM) = d5 at *
  refine join0_ok (fun w' => Sep w1 w' p d5 Lone) (fun kend hkend => ?_) (fun w' O => callB_ok awake_ok fun w2 F2 => ⟨rfl, (F1.then O.fr0 fun _ _ h => h).then F2 fun _ _ h => h⟩)
  refine loop1_ok (c := .int .i64) (fun (i : Int) w' => ∃ k : Nat, i = (k : Int) ∧ k ≤ 9 ∧ Sep w1 w' p d5 Lone) (fun (i : Int) => 9 - i.toNat) ?_ ⟨0, rfl, by omega, O6⟩
  rintro rec i w7 ⟨i, rfl, hi9, O7⟩ hrec
  refine ite_ok (fun hlt => ?_) (fun hge => hkend _ O7)
  have hlt : i < 9 := by simp only [decide_eq_true_eq] at hlt; omega
  refine join0_ok (fun w' => Sep w1 w' p d5 Lone) (fun kr hkr => ?_) (fun w' O => ?_)
  rotate_left
  · refine hrec _ _ ⟨i + 1, ?_, hlt, O⟩ ?_
    · rw [wrap_ok (by omega) (by omega)]; omega
    · rw [wrap_ok (by omega) (by omega), Int.toNat_natCast]; omega
  refine callS_ok (O7.image stable_lone) fun w8 O8 => ?_
  rw [wrap_ok (n := 64 * (i : Int)) (by omega) (by omega), wrap_ok (n := 64 * (i : Int) + 64) (by omega) (by omega)]
  refine sub_ok (by omega) (by omega) (by omega) (sub_ok (by omega) (by omega) (by omega) (assume_ok rfl ?_))
  have ei : (64 * (i : Int)).toNat = 64 * i := by omega
  have ei2 : (64 * (i : Int) + 64).toNat = 64 * i + 64 := by omega
  rw [ei, ei2]
  have hmi := hmix i (by omega)
  generalize d5.image.extract (64 * i) (64 * i + 64) = now at *
  generalize hold : d2.image.extract (64 * i) (64 * i + 64) = old at *
  have hold64 : old.size = 64 := by rw [← hold, ByteArray.size_extract]; omega
  refine new_ok fun w9 m40 hm40 hs9 B40 F9 => ?_
  refine join1_ok (c := .slice) (fun (s : Sl) w' => RdS w' s (old :: putsAt i m) ∧ Fr noB w8 w') (fun k41 hk41 => ?_) ?_
  rotate_left
  · rintro s w10 ⟨hrd, F10⟩
    have O10 := O8.fr stable_lone F10
    refine callB_ok (mixed_ok now ⟨s.a, s.n, s.c⟩ _ hrd (fun x hx => ?_) ?_ hmi) fun w11 F11 => ite_no rfl (hkr _ (O10.fr stable_lone F11))
    · rcases List.mem_cons.1 hx with rfl | hx
      · exact hold64
      · obtain ⟨y, _, rfl⟩ := List.mem_map.1 hx
        rw [pad_bs, bs_size, padL_length]
    · have : (putsAt i m).length ≤ m.length := by unfold putsAt; rw [List.length_map]; exact List.length_filter_le _ _
      simp only [List.length_cons]; omega
  -- the list grows
  refine loop_ok (vs := [.one .slice, .one (.int .i64)])
    (fun xs w' => ∃ (k : Nat), xs.2.1.1 = (k : Int) ∧ k ≤ m.length ∧ w'.ownsRow 0 9 1 (.slice (show Sl from xs.1.1).a (show Sl from xs.1.1).n (show Sl from xs.1.1).c) (old :: putsAt i (m.take k)).length ((old :: putsAt i (m.take k)).map Value.string) ∧
      (∀ a, (show Sl from xs.1.1).a = some a → w8.heap.size ≤ a.block) ∧ Fr noB w8 w')
    (fun xs => m.length - (show Int from xs.2.1.1).toNat) ?_ (xs := ((_, ()), ((_, ()), ()))) ⟨0, rfl, Nat.zero_le _, ?_, ?_, F9⟩
  rotate_left
  · exact ⟨rfl, .inr ⟨m40, 1, #[.string old], rfl, Nat.zero_le _, B40, Nat.le_refl _, by unfold maxLen; omega, by simp, by simp [putsAt]⟩⟩
  · intro a ha
    cases ha
    show w8.heap.size ≤ m40
    omega
  rintro rec2 ⟨⟨s, ⟨⟩⟩, ⟨⟨i2, ⟨⟩⟩, ⟨⟩⟩⟩ w10 ⟨k, hi2, hk, hown, hnew, F10⟩ hrec2
  change Sl at s
  change Int at i2
  change i2 = (k : Int) at hi2
  change ∀ a, s.a = some a → w8.heap.size ≤ a.block at hnew
  change w10.ownsRow 0 9 1 (.slice s.a s.n s.c) _ _ at hown
  subst hi2
  have O10 := O8.fr stable_lone F10
  refine ite_ok (fun hlt2 => ?_) (fun hge2 => ?_)
  rotate_left
  · have hge2 : k = m.length := by simp only [decide_eq_false_iff_not] at hge2; omega
    subst hge2
    rw [List.take_length] at hown
    exact hk41 _ _ ⟨RdS.of_own hown, F10⟩
  have hlt2 : k < m.length := by simp only [decide_eq_true_eq] at hlt2; omega
  obtain ⟨x, a, hx, hla, rd0, rd1, hix⟩ := hm1.at hlt2
  have etake : putsAt i (m.take (k + 1)) = putsAt i (m.take k) ++ (if x.1 = (i : Int) then [pad x.2] else []) := by
    have e : m.take (k + 1) = m.take k ++ [x] := by rw [List.take_add_one, hx]; rfl
    rw [e]
    unfold putsAt
    rw [List.filter_append, List.map_append]
    congr 1
    by_cases h : x.1 = (i : Int) <;> simp [h]
  refine join1_ok (c := .slice) (fun (s : Sl) w' => w'.ownsRow 0 9 1 (.slice s.a s.n s.c) (old :: putsAt i (m.take (k + 1))).length ((old :: putsAt i (m.take (k + 1))).map Value.string) ∧ (∀ a, s.a = some a → w8.heap.size ≤ a.block) ∧ Fr noB w8 w') (fun k45 hk45 => ?_) ?_
  rotate_left
  · rintro s' w11 ⟨h1, h2, h3⟩
    refine hrec2 ((_, ()), ((_, ()), ())) w11 ⟨k + 1, ?_, hlt2, h1, h2, h3⟩ ?_
    · show IntKind.wrap .i64 ((k : Int) + 1) = _
      rw [wrap_ok (by omega) (by omega)]; omega
    · show m.length - (IntKind.wrap .i64 ((k : Int) + 1)).toNat < m.length - (k : Int).toNat
      rw [wrap_ok (by omega) (by omega), Int.toNat_natCast]; omega
  rw [hla]
  refine hix (ld_ok (c := .int .i64) (x := x.1) (rd0 _ O10.fr0) ?_)
  refine join1_ok (c := .slice) (fun (s : Sl) w' => w'.ownsRow 0 9 1 (.slice s.a s.n s.c) (old :: putsAt i (m.take (k + 1))).length ((old :: putsAt i (m.take (k + 1))).map Value.string) ∧ (∀ a, s.a = some a → w8.heap.size ≤ a.block) ∧ Fr noB w8 w') (fun k48 hk48 => ?_) (fun s' w' h => hk45 _ _ h)
  refine ite_ok (fun he => ?_) (fun hne => ?_)
  · have he : x.1 = (i : Int) := by simpa using he
    rw [if_pos he] at etake
    refine hix (ld_ok (c := .str) (x := x.2) (rd1 _ O10.fr0) ?_)
    refine callS_ok (sector_ok x.2) fun w11 F11 => assume_ok rfl ?_
    refine new_ok fun w12 m52 hm52 hs12 B52 F12 => ?_
    have F1012 := F11.then F12 (fun _ _ h => h)
    obtain ⟨i0, z, hi, hz, hz1, hz2, hz3⟩ := row9
    have hown12 := own_cell hown F1012 (fun _ _ h => h)
    have hml : (old :: putsAt i (m.take k)).length ≤ 101 := by
      have : (putsAt i (m.take k)).length ≤ (m.take k).length := by unfold putsAt; rw [List.length_map]; exact List.length_filter_le _ _
      rw [List.length_take] at this
      simp only [List.length_cons]; omega
    refine append_ok u42 hi hz hz1 hz2 hz3 (by omega) (s := ⟨s.a, s.n, s.c⟩) hown12 (m := 1) (news := [.string (pad x.2)]) rfl (B52.held fun j v hj => by rw [Nat.zero_add]; exact hj) (fun u hu => by rw [List.mem_singleton.1 hu]; rfl) (by unfold maxLen; omega) (by omega) ?_
    intro s' w13 hown13 F13 hnew13
    have F813 : Fr noB w8 w13 := (F10.then F1012 (fun _ _ h => h)).then F13 (by rintro y hy ⟨a', ha', hb'⟩; have := hnew a' ha'; omega)
    have e13 : w13.ownsRow 0 9 1 (.slice s'.a s'.n s'.c) (old :: putsAt i (m.take (k + 1))).length ((old :: putsAt i (m.take (k + 1))).map Value.string) := by
      rw [etake]
      simpa using hown13
    refine hk48 _ _ ⟨e13, fun a' ha' => ?_, F813⟩
    rcases hnew13 a' ha' with h | h
    · exact hnew a' h
    · have := (F10.then F1012 (fun _ _ h => h)).size; omega
  · have hne : x.1 ≠ (i : Int) := by simpa using hne
    rw [if_neg hne, List.append_nil] at etake
    rw [← etake] at hown
    exact hk48 _ _ ⟨hown, hnew, F10⟩
end Go.Proofs.Ytmklfedlifcoiaa
