/- The disk's methods, further: its bytes. -/
import Derived.Test.YtmklfedlifcoiaaDiskD
namespace Go.Proofs.Ytmklfedlifcoiaa
open Go.Lift

theorem clone35_ok {w : World} {bp : Nat} {pl : List (List UInt8)} (B : Blk w bp 72 (pl.flatMap bv)) (hlen : ∀ x ∈ pl, x.length = 64) (hbig : pl.length ≤ 4096) (c : Nat) :
    Calls Try.prog 35 #[.slice (some ⟨bp, 0, none⟩) pl.length c] w fun e w' =>
    ∃ s' : Sl, e = .returned (.slice s'.a s'.n s'.c) ∧ w'.ownsRow 0 72 64 (.slice s'.a s'.n s'.c) pl.length (pl.flatMap bv) ∧ Fr noB w w' ∧ ∀ a, s'.a = some a → w.heap.size ≤ a.block ∧ a.block < w'.heap.size := by
  apply c35 ⟨some ⟨bp, 0, none⟩, pl.length, c⟩
  unfold t35
  refine ite_no rfl (new_ok fun w1 m1 hm1 hs1 B1 F1 => ?_)
  obtain ⟨i, z, hi, hz, h1, h2, h3⟩ := row72
  have hfl : (pl.flatMap bv).length = pl.length * 64 := flat_length bv 64 (fun y hy => by rw [bv_length]; exact hlen y hy)
  refine append_ok u58 hi hz h1 h2 (by rw [h3]; simp) (by omega) (s := ⟨some ⟨m1, 0, none⟩, 0, 0⟩) (n := 0) (xs := []) ⟨rfl, .inr ⟨m1, 0, #[], rfl, Nat.zero_le _, B1, Nat.le_refl _, by unfold maxLen; omega, rfl, rfl⟩⟩
    (m := pl.length) (news := pl.flatMap bv) hfl ((B.fr F1 (fun h => h)).held (o := 0) (fun j v hj => by rw [Nat.zero_add]; exact hj)) (fun v hv => by obtain ⟨s, _, hs⟩ := List.mem_flatMap.1 hv; exact bv_one v hs) (by unfold maxLen; omega) (by omega) fun s' w2 hown F2 hnew => ?_
  refine ⟨s', rfl, by simpa using hown, F1.then F2 ?_, fun a ha => ?_⟩
  · rintro k hk ⟨a, ha, e⟩
    cases ha
    exact absurd e (by show m1 ≠ k; omega)
  · rcases hnew a ha with h | h
    · cases h
      have := F2.size
      exact ⟨by show w.heap.size ≤ m1; omega, by show m1 < _; omega⟩
    · exact ⟨by omega, h.2⟩

def rows (pl : List (List UInt8)) : ByteArray := ⟨pl.flatten.toArray⟩
def DM.image (d : DM) : ByteArray := rows (flushL d.cache d.plat)
theorem flat_bv (pl : List (List UInt8)) : pl.flatMap bv = bv pl.flatten := by
  induction pl with
  | nil => rfl
  | cons x pl ih => rw [List.flatMap_cons, ih, List.flatten_cons]; simp [bv]
theorem u75b : Try.prog.underlying 5 = some (.int .u8) := by kernel_rfl
theorem u9 : Try.prog.underlying 9 = some .string := by kernel_rfl
theorem row5 : ∃ i z, Try.prog.info? 5 = some i ∧ i.zero = some z ∧ i.size = 1 ∧ i.bytes = 1 ∧ z.cells = #[.int .u8 0] := by
  have h : (Try.prog.info? 5).map (fun i => (i.size, i.bytes, i.zero.map (·.cells))) = some (1, 1, some #[.int .u8 0]) := by kernel_rfl
  cases hi : Try.prog.info? 5 with
  | none => rw [hi] at h; cases h
  | some i =>
    rw [hi] at h
    simp only [Option.map_some, Option.some.injEq, Prod.mk.injEq] at h
    cases hz : i.zero with
    | none => rw [hz] at h; simp at h
    | some z => rw [hz] at h; exact ⟨i, z, rfl, hz, h.1, h.2.1, by simpa using h.2.2⟩

theorem back_ok {R : Ending → World → Prop} {w : World} {s : Sl} {n : Nat} {l : List UInt8} (hn : n = l.length) (h : w.ownsRow 0 5 1 (.slice s.a s.n s.c) n (bv l)) {k : ByteArray → G} (hk : k ⟨l.toArray⟩ R w) :
    opG Try.prog (convert 75 9 (.slice s.a s.n s.c)) (.one .str) k R w := by
  subst hn
  rcases h.2 with ⟨hv, hn⟩ | ⟨g, cap, cur, hv, _⟩
  · have hl : l = [] := List.eq_nil_of_length_eq_zero hn
    subst hl
    rw [hv]
    exact ⟨(ByteArray.empty, ()), w, run_convert_bytes_nil _ 75 5 u75 u75b 0 0 9 u9, hk⟩
  · have hc := h.cells (g := g) (by rw [hv]; rfl)
    rw [hv]
    refine ⟨(⟨l.toArray⟩, ()), w, run_convert_bytes_back _ 75 9 5 ⟨g, 0, none⟩ cap l u75 u75b u9 (fun j hj => ?_), hk⟩
    exact hc j _ (by unfold bv; rw [List.getElem?_map, List.getElem?_eq_getElem hj]; rfl)

set_option maxHeartbeats 1000000 in
theorem image_ok {w : World} {p : Nat} {d : DM} {B : Nat → Prop} (D0 : DAt w p d B) : Calls Try.prog 16 #[.pointer (some ⟨p, 0, none⟩)] w fun e w' =>
    e = .returned (.string d.image) ∧ Fr noB w w' := by
  obtain ⟨bp, cs, ks, D, hB⟩ := D0
  apply c16
  unfold t16
  refine call_ok (none_ok D) ?_
  rintro _ w' ⟨rfl, hw'⟩
  replace hw' := hw'.symm
  subst hw'
  refine ⟨((false, ()), ()), rfl, ite_no rfl (nn_ok (D.blk.ldS (o := 0) rfl ?_))⟩
  refine call_ok (clone35_ok D.plat D.len D.big _) ?_
  rintro _ w1 ⟨s', rfl, hown, F1, hnew⟩
  refine ⟨((s', ()), ()), rfl, ?_⟩
  have D1 := D.fr F1 (fun _ _ h => h)
  refine nn_ok (D1.blk.ldS (o := 1) rfl ?_)
  obtain ⟨hcm, hcn⟩ := cache_small D1
  -- the copy
  have hpos := D.pos
  rcases hown.2 with ⟨_, hn0⟩ | ⟨gq, cap, cur, hv, _, hgq, hcap, hcapm, hcsz, htake⟩
  · omega
  simp only [Value.slice.injEq] at hv
  obtain ⟨ha, hn, hc⟩ := hv
  have hq := hnew _ ha
  have hpl := D.plat.lt
  have hpp := D.blk.lt
  obtain ⟨sa, sn, sc⟩ := s'
  simp only at ha hn hc hq
  subst ha hn hc
  have hflat : ∀ {pl : List (List UInt8)}, (∀ x ∈ pl, x.length = 64) → (pl.flatMap bv).length = pl.length * 64 := fun hlen => flat_length bv 64 (fun y hy => by rw [bv_length]; exact hlen y hy)
  have BQ : Blk w1 gq 72 (d.plat.flatMap bv ++ cur.toList.drop (d.plat.length * 64)) := by
    unfold Blk
    rw [hgq, ← htake, List.take_append_drop]
  generalize cur.toList.drop (d.plat.length * 64) = rest at BQ
  refine join0_ok (fun w' => Blk w' gq 72 ((flushL d.cache d.plat).flatMap bv ++ rest) ∧ Fr (oneB gq) w1 w') (fun kj hkj => ?_) ?_
  · refine loop1_ok (c := .int .i64)
      (fun (i : Int) w' => ∃ (k : Nat) (pl : List (List UInt8)), i = (k : Int) ∧ k ≤ d.cache.length ∧ pl.length = d.plat.length ∧ (∀ x ∈ pl, x.length = 64) ∧
        Blk w' gq 72 (pl.flatMap bv ++ rest) ∧ Fr (oneB gq) w1 w' ∧ flushL (d.cache.drop k) pl = flushL d.cache d.plat)
      (fun (i : Int) => (d.cache.length - i.toNat)) ?_ ⟨0, d.plat, rfl, Nat.zero_le _, rfl, D.len, BQ, Fr.refl _ _, rfl⟩
    rintro rec i w2 ⟨k, pl, rfl, hk, hpl2, hlen, BP, F2, hrest⟩ hrec
    refine ite_ok (fun hlt => ?_) (fun hge => ?_)
    · have hlt : k < d.cache.length := by simpa [hcn] using hlt
      obtain ⟨x, hx⟩ : ∃ x, d.cache[k]? = some x := ⟨_, List.getElem?_eq_getElem hlt⟩
      have hxm := List.mem_of_getElem? hx
      obtain ⟨hx1, hx2⟩ := D.cwf x hxm
      obtain ⟨g, cur, hg, _, BG0, hgp, hgb, hrow⟩ := cache_row D hx
      have hgne : g ≠ gq := by have := BG0.lt; omega
      have BG' := (BG0.fr F1 (fun h => h)).fr F2 hgne
      rw [hg]
      refine join_in (idxB_ok (by simpa [hcn] using hlt) ?_)
      refine BG'.ldRow (cs := wv x) (wv_length hx2) (fun j v hj => ?_) ?_
      · have : j < 65 := by have := (List.getElem?_eq_some_iff.1 hj).1; rwa [wv_length hx2] at this
        rw [Nat.zero_add, hrow j this]; exact hj
      refine new_ok fun w3 m15 hm15 hs3 B15 F3 => ?_
      have hw2 := F2.size
      refine stRow_ok (t := 74) (by obtain ⟨i, hi, hs⟩ := info74; exact ⟨i, hi, by rw [hs]; simp [wv_length hx2]⟩) B15 (by simp [wv_length hx2]) (by simpa using wv_one) fun w4 B15' F4 _ => ?_
      rw [row_e13 hx2] at B15'
      have F25 : Fr noB w2 w4 := F3.then F4 fun y hy h => (show False by unfold oneB at h; omega)
      have BP5 := BP.fr F25 (fun h => h)
      refine B15'.ld (o := 0) rfl ?_
      refine B15'.ldRow (o := 1) (cs := bv x.2) (by rw [bv_length, hx2]) (fun j v hj => by rw [Nat.add_comm, wv_tail]; exact hj) ?_
      refine idxB_ok (by exact hx1) ?_
      obtain ⟨i, z, hi, hz, h1, h2, h3⟩ := row72
      have hfl := hflat hlen
      have hfit : x.1 * 64 + 64 ≤ (pl.flatMap bv).length := by
        rw [hfl, ← Nat.succ_mul]; exact Nat.mul_le_mul_right _ (by omega)
      refine stRow_ok (t := 72) ⟨i, hi, by rw [h1]; simp [bv_length, hx2]⟩ BP5 (by simp only [List.size_toArray, bv_length, hx2, List.length_append]; omega) (by simpa using bv_one) fun w6 B6 F6 _ => ?_
      have hput := flat_put hlen (i := x.1) (by omega) x.2
      simp only [List.size_toArray, bv_length, hx2, Nat.zero_add] at B6
      rw [List.take_append_of_le_length (by omega), List.drop_append_of_le_length (by omega), ← List.append_assoc, ← List.append_assoc, List.append_assoc (List.take _ _), hput] at B6
      have F26 : Fr (oneB gq) w2 w6 := (F25.mono (fun _ _ h => h.elim)).then F6 (fun _ _ h => h)
      refine hrec _ _ ⟨k + 1, pl.set x.1 x.2, ?_, by omega, by simpa using hpl2, set_len hlen hx2, B6, F2.then F26 (fun _ _ h => h), ?_⟩ ?_
      · rw [wrap_ok (by omega) (by omega)]; omega
      · have hd : d.cache.drop k = x :: d.cache.drop (k + 1) := by
          rw [List.drop_eq_getElem_cons hlt]
          congr 1
          exact (List.getElem?_eq_some_iff.1 hx).2
        rw [hd] at hrest
        exact hrest
      · simp only [Int.toNat_natCast]
        rw [wrap_ok (by omega) (by omega)]
        omega
    · have hge : k = d.cache.length := by have : ¬ ((k : Int) < cs.n) := by simpa using hge
                                          omega
      subst hge
      rw [List.drop_length] at hrest
      have hrest : pl = flushL d.cache d.plat := hrest
      subst hrest
      exact hkj _ ⟨BP, F2⟩
  rintro w2 ⟨BQ2, F2⟩
  have hL := flushL_length d.cache d.plat
  have hLen := flushL_len d.cache d.plat (fun x hx => (D.cwf x hx).2) D.len
  have himg : d.image = rows (flushL d.cache d.plat) := rfl
  rw [himg]
  generalize flushL d.cache d.plat = q at *
  have hbig := D.big
  have F02 : Fr noB w w2 := F1.then F2 fun k hk h => (show False by unfold oneB at h; omega)
  obtain ⟨i, z, hi, hz, h1, h2, h3⟩ := row5
  dsimp only
  refine make_ok u75 hi hz (by omega) (by rw [wrap_ok (by omega) (by omega)]; omega) (by rw [h2, wrap_ok (by omega) (by omega)]; omega) (by rw [wrap_ok (by omega) (by omega)]; omega) fun w3 b3 hb3 hs3 B3 F3 => ?_
  rw [wrap_ok (by omega) (by omega)] at B3 ⊢
  have hF2s := F2.size
  refine join1_ok (c := .slice) (fun (s : Sl) w' => w'.ownsRow 0 5 1 (.slice s.a s.n s.c) (d.plat.length * 64) (q.flatMap bv) ∧ Fr noB w w') (fun kj hkj => ?_) ?_
  · refine loop_ok (vs := [.one .slice, .one (.int .i64)])
      (fun xs w' => ∃ k : Nat, xs.2.1.1 = (k : Int) ∧ k ≤ d.plat.length ∧ w'.ownsRow 0 5 1 (.slice xs.1.1.a xs.1.1.n xs.1.1.c) (k * 64) ((q.take k).flatMap bv) ∧ Fr noB w2 w' ∧ ∀ a, xs.1.1.a = some a → w2.heap.size ≤ a.block)
      (fun xs => d.plat.length - (show Int from xs.2.1.1).toNat) ?_ (xs := ((_, ()), ((_, ()), ()))) ⟨0, rfl, Nat.zero_le _, ?_, F3, fun a ha => ?_⟩
    · rintro rec ⟨⟨l, ⟨⟩⟩, ⟨⟨i', ⟨⟩⟩, ⟨⟩⟩⟩ w4 ⟨k, hik, hk, hown4, F4, hnew4⟩ hrec
      change Int at i'
      change Sl at l
      change i' = (k : Int) at hik
      subst hik
      dsimp only at hown4 hnew4
      have BQ4 := BQ2.fr F4 (fun h => h)
      show iteG (Decidable.decide ((k : Int) < ((d.plat.length : Nat) : Int))) _ _ _ _
      refine ite_ok (fun hlt => ?_) (fun hge => ?_)
      · have hlt : k < d.plat.length := by simpa using hlt
        refine join1_ok (c := .slice) (fun (s : Sl) w' => w'.ownsRow 0 5 1 (.slice s.a s.n s.c) ((k + 1) * 64) ((q.take (k + 1)).flatMap bv) ∧ Fr noB w2 w' ∧ ∀ a, s.a = some a → w2.heap.size ≤ a.block) (fun kj2 hkj2 => ?_) ?_
        · refine idxB_ok hlt (assume_ok rfl (reslice_ok (by omega) (by omega) (by omega) (by omega) ?_))
          have hkq : k < q.length := by omega
          have hrow : (q[k]).length = 64 := hLen _ (List.getElem_mem _)
          refine append_ok u75 hi hz h1 h2 (by rw [h3]; rfl) (by omega) hown4 (m := 64) (news := bv q[k]) (by rw [bv_length, hrow]) ?_ bv_one (by unfold maxLen; omega) (by omega) fun s' w5 hown5 F5 hnew5 => ?_
          · refine BQ4.held fun j v hj => ?_
            have hj64 : j < 64 := by have := (List.getElem?_eq_some_iff.1 hj).1; rwa [bv_length, hrow] at this
            have hfl := hflat hLen
            have hfit : k * 64 + 64 ≤ q.length * 64 := by rw [← Nat.succ_mul]; exact Nat.mul_le_mul_right _ hkq
            rw [Nat.zero_add, List.getElem?_append_left (by omega), flat_at bv 64 (fun y hy => by rw [bv_length]; exact hLen y hy) (List.getElem?_eq_getElem hkq) j hj64]
            exact hj
          · have e1 : (q.take (k + 1)).flatMap bv = (q.take k).flatMap bv ++ bv q[k] := by
              rw [List.take_succ_eq_append_getElem hkq, List.flatMap_append]; simp
            refine hkj2 _ _ ⟨by rw [e1, Nat.succ_mul]; exact hown5, F4.then F5 ?_, fun a ha => ?_⟩
            · rintro b hb ⟨a, ha, rfl⟩
              have := hnew4 a ha
              omega
            · rcases hnew5 a ha with h | h
              · exact hnew4 a h
              · have := F4.size; omega
        · rintro s' w5 ⟨hown5, F5, hnew5⟩
          refine hrec ((s', ()), ((_, ()), ())) w5 ⟨k + 1, ?_, hlt, hown5, F5, hnew5⟩ ?_
          · show IntKind.wrap .i64 ((k : Int) + 1) = _
            rw [wrap_ok (by omega) (by omega)]; omega
          · show d.plat.length - (IntKind.wrap .i64 ((k : Int) + 1)).toNat < d.plat.length - (k : Int).toNat
            rw [wrap_ok (by omega) (by omega)]
            omega
      · have hge : k = d.plat.length := by have : ¬ ((k : Int) < (d.plat.length : Nat)) := by simpa using hge
                                           omega
        subst hge
        rw [List.take_of_length_le (by omega)] at hown4
        exact hkj _ _ ⟨hown4, F02.then F4 fun _ _ h => h⟩
    · have e : ((d.plat.length : Nat) * 64 : Int).toNat = d.plat.length * 64 := by omega
      rw [e, h1] at B3
      dsimp only
      rw [e]
      exact ⟨by simp, .inr ⟨b3, d.plat.length * 64, _, rfl, Nat.zero_le _, B3, Nat.zero_le _, by unfold maxLen; omega, by simp [madeCells], by simp⟩⟩
    · cases ha
      show w2.heap.size ≤ b3
      omega
  · rintro s w5 ⟨hown5, F5⟩
    rw [flat_bv] at hown5
    exact back_ok (by have := hflat hLen; rw [flat_bv, bv_length] at this; omega) hown5 ⟨rfl, F5⟩
end Go.Proofs.Ytmklfedlifcoiaa
