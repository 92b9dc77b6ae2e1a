/- DiskPlays, DiskLoads: their contracts. -/
import Derived.Test.YtmklfedlifcoiaaLawB
namespace Go.Proofs.Ytmklfedlifcoiaa
open Go.Lift

section
variable {w0 w w' : World} {p q : Nat} {d o : DM}
theorem Sep.first (F0 : Fr noB w0 w) (hD : DAt w' p d (Grow noB w w')) (F : Fr noB w w') : Sep w0 w' p d Lone := by
  have := F0.size
  exact ⟨Grow noB w w', noB, hD, trivial, fun _ _ h => h, fun k hk => by rcases hk with (hk | hk) | hk; exact hk.elim; exact ⟨by omega, hk.2⟩; exact hk.elim, F0.then F (fun _ _ h => h)⟩
theorem Sep.beside (O : Sep w0 w p d Lone) (hR : RAt w0 w' q o (Grow noB w w')) (F : Fr noB w w') : Sep w0 w' p d (BesideR w0 q o) := by
  obtain ⟨B, C, hD, _, _, hb, h0⟩ := O
  have := h0.size
  have := F.size
  refine ⟨B, Grow noB w w', hD.fr F (fun _ _ h => h), hR, fun k hk hg => ?_, fun k hk => ?_, h0.then F (fun _ _ h => h)⟩
  · have := hb k (.inl hk)
    rcases hg with hg | hg
    · exact hg
    · omega
  · rcases hk with hk | (hk | hk)
    · have := hb k (.inl hk); omega
    · exact hk.elim
    · omega
theorem Sep.told (O : Sep w0 w p d (BesideR w0 q o)) : ∃ ps cs ks t c, Sep w0 w p d (BesideT w0 q o ps cs ks t c) ∧ ps.n = o.plat.length := by
  obtain ⟨B, C, hD, ⟨ps, cs, ks, t, c, hR, hC⟩, hd, hb, h0⟩ := O
  exact ⟨ps, cs, ks, t, c, ⟨B, C, hD, ⟨hR, hC⟩, hd, hb, h0⟩, own_n hR.plat⟩
theorem Sep.untold {ps cs ks : Sl} {t c : Int} (O : Sep w0 w p d (BesideT w0 q o ps cs ks t c)) : Sep w0 w p d (BesideR w0 q o) := by
  obtain ⟨B, C, hD, ⟨hR, hC⟩, hd, hb, h0⟩ := O
  exact ⟨B, C, hD, ⟨ps, cs, ks, t, c, hR, hC⟩, hd, hb, h0⟩
theorem Sep.bt {ps cs ks : Sl} {t c : Int} (O : Sep w0 w p d (BesideT w0 q o ps cs ks t c)) :
    Blk w q 56 [.slice ps.a ps.n ps.c, .slice cs.a cs.n cs.c, .int .i64 o.armed, .slice ks.a ks.n ks.c, .int .i64 t, .int .i64 c, .bool o.dead, .int .i64 o.ops] := by
  obtain ⟨_, _, _, ⟨hR, _⟩, _⟩ := O
  exact hR.blk
end

def DM.acts (d : DM) (l : List AM) : DM := l.foldl DM.act d
theorem acts_app (d : DM) (l : List AM) (a : AM) : d.acts (l ++ [a]) = (d.acts l).act a := by
  unfold DM.acts
  rw [List.foldl_append]
  rfl
theorem acts_counts (d : DM) : ∀ (k : Nat) (l : List AM), (d.acts (l.take k)).cache.length ≤ d.cache.length + k ∧ (d.acts (l.take k)).ops ≤ d.ops + k
  | 0, l => by simp [DM.acts]
  | k + 1, l => by
    have ih := acts_counts d k l
    rw [List.take_add_one]
    cases h : l[k]? with
    | none => simp only [Option.toList_none, List.append_nil]; exact ⟨by omega, by omega⟩
    | some a =>
      have := act_counts (d.acts (l.take k)) a
      simp only [Option.toList_some, acts_app]
      exact ⟨by omega, by omega⟩

set_option maxRecDepth 100000 in
set_option maxHeartbeats 4000000 in
theorem plays_ok {w0 : World} (n : Int) (l0 : Sl) (l : List AM) (hl : RdA w0 l0 l) :
    Calls Try.prog 6 #[.int .i64 n, .slice l0.a l0.n l0.c] w0 fun e w' => e = .returned (.bool true) ∧ Fr noB w0 w' := by
  have hn0 := hl.1
  apply c6
  unfold t6
  refine call_ok (new_disk_ok n) ?_
  intro e w1 hnew
  by_cases hb : n < 1 ∨ n > 4096
  · rw [if_pos hb] at hnew
    obtain ⟨rfl, hw⟩ := hnew
    replace hw := hw.symm
    subst hw
    refine ⟨((none, ()), ((2, ()), ())), rfl, ?_⟩
    refine call_ok (rnew_ok (w0 := w0) n) ?_
    intro e w2 hnew2
    rw [if_pos hb] at hnew2
    obtain ⟨rfl, hw⟩ := hnew2
    replace hw := hw.symm
    subst hw
    refine ⟨((none, ()), ((2, ()), ())), rfl, ?_⟩
    refine join1_ok (c := .bool) (fun (b : Bool) w' => b = true ∧ w' = w0) (fun k hk => ite_no rfl (ite_no rfl (hk _ _ ⟨rfl, rfl⟩))) ?_
    rintro b w' ⟨rfl, hw⟩
    replace hw := hw.symm
    subst hw
    refine ite_yes rfl (join1_ok (c := .bool) (fun (b : Bool) w' => b = true ∧ Fr noB w0 w') (fun k hk => ite_yes rfl (ite_yes rfl (callB_ok awake_ok fun w3 F3 => hk _ _ ⟨rfl, F3⟩))) (fun b w' h => ⟨by rw [h.1], h.2⟩))
  rw [if_neg hb] at hnew
  obtain ⟨p, rfl, hD, F1⟩ := hnew
  have O1 := Sep.first (Fr.refl noB w0) hD F1
  refine ⟨((some ⟨p, 0, none⟩, ()), ((0, ()), ())), rfl, ?_⟩
  refine call_ok (rnew_ok (w0 := w0) n) ?_
  intro e w2 hnew2
  rw [if_neg hb] at hnew2
  obtain ⟨q, rfl, hR, F2⟩ := hnew2
  have O2 := O1.beside hR F2
  refine ⟨((some ⟨q, 0, none⟩, ()), ((0, ()), ())), rfl, ?_⟩
  refine join1_ok (c := .bool) (fun (b : Bool) w' => b = false ∧ w' = w2) (fun k hk => ite_no rfl (ite_no rfl (hk _ _ ⟨rfl, rfl⟩))) ?_
  rintro b w' ⟨rfl, hw⟩
  replace hw := hw.symm
  subst hw
  refine ite_no rfl ?_
  refine join1_ok (c := .bool) (fun (b : Bool) w' => (b = false → l.length ≤ 300) ∧ w' = w2) (fun k hk => ite_ok (fun _ => hk _ _ ⟨(fun e => by cases e), rfl⟩) fun _ => ?_) ?_
  · refine call_ok (few_ok l0 l (hl.fr O2.fr0)) ?_
    rintro _ w3 ⟨b, rfl, h300, hw⟩
    replace hw := hw.symm
    subst hw
    refine ⟨((b, ()), ()), rfl, hk _ _ ⟨fun e => h300 ?_, rfl⟩⟩
    simpa using e
  rintro b w' ⟨h300, hw⟩
  replace hw := hw.symm
  subst hw
  refine ite_ok (fun h => callB_ok awake_ok fun w3 F3 => ⟨rfl, O2.fr0.then F3 fun _ _ h => h⟩) fun h => ?_
  have h300 := h300 h
  refine join0_ok (fun w' => Fr noB w0 w') (fun kend hkend => ?_) (fun w' F => callB_ok awake_ok fun w3 F3 => ⟨rfl, F.then F3 fun _ _ h => h⟩)
  refine loop1_ok (c := .int .i64) (fun (i : Int) w' => ∃ k : Nat, i = (k : Int) ∧ k ≤ l.length ∧ Sep w0 w' p ((DM.new n.toNat).acts (l.take k)) (BesideR w0 q ((DM.new n.toNat).acts (l.take k)))) (fun (i : Int) => l.length - i.toNat) ?_
    ⟨0, rfl, Nat.zero_le _, O2⟩
  rintro rec i w3 ⟨k, rfl, hk, O3⟩ hrec
  refine ite_ok (fun hlt => ?_) fun hge => hkend _ O3.fr0
  have hlt : k < l.length := by simp only [decide_eq_true_eq] at hlt; omega
  obtain ⟨x, a, hx, hla, hok, hh, hix⟩ := hl.at hlt
  have hcnt := acts_counts (DM.new n.toNat) k l
  have hnc : (DM.new n.toNat).cache.length = 0 := rfl
  have hno : (DM.new n.toNat).ops = 0 := rfl
  have estep : (DM.new n.toNat).acts (l.take (k + 1)) = ((DM.new n.toNat).acts (l.take k)).act x := by
    rw [List.take_add_one, hx]
    exact acts_app _ _ _
  generalize (DM.new n.toNat).acts (l.take k) = dk at *
  refine join0_ok (fun w' => Sep w0 w' p (dk.act x) (BesideR w0 q (dk.act x))) (fun k19 hk19 => ?_) (fun w' O => ?_)
  rotate_left
  · rw [← estep] at O
    refine hrec _ _ ⟨k + 1, ?_, hlt, O⟩ ?_
    · rw [wrap_ok (by omega) (by omega)]; omega
    · rw [wrap_ok (by omega) (by omega), Int.toNat_natCast]; omega
  refine join1_ok (c := .bool) (fun (b : Bool) w' => b = false ∧ Sep w0 w' p (dk.act x) (BesideR w0 q (dk.act x))) (fun k20 hk20 => ?_) ?_
  rotate_left
  · rintro b w' ⟨rfl, O⟩
    exact ite_no rfl (hk19 _ O)
  refine drew_ok fun w4 F4 _ => ?_
  have O4 := O3.fr (stable_besideR w0 q dk) F4
  have h4 := hh _ O4.fr0
  rw [hla]
  refine hix ?_
  generalize hAd : a.add (k * 7) = ad at *
  refine ld_ok (c := .int .i64) (x := x.kind) (h4 0 _ rfl) (ld_ok (c := .int .i64) (x := x.at') (h4 1 _ rfl) (ld_ok (c := .str) (x := x.data) (h4 2 _ rfl) (ld_ok (c := .bool) (x := x.raw) (h4 3 _ rfl) (ld_ok (c := .slice) (x := x.ks) (h4 4 _ rfl) (ld_ok (c := .int .i64) (x := x.torn) (h4 5 _ rfl) (ld_ok (c := .int .i64) (x := x.cut) (h4 6 _ rfl) ?_))))))
  refine callB_ok (both_ok O4 x hok (by omega) (by omega)) fun w5 O5 => ite_no rfl ?_
  generalize dk.act x = e at *
  obtain ⟨ps, cs, ks, t, c, O5, hpsn⟩ := O5.told
  have st := stable_besideT w0 q e ps cs ks t c
  have kx : ∀ {w'}, Sep w0 w' p e (BesideT w0 q e ps cs ks t c) → Held w' (ad, x.cells) := fun O => hh _ O.fr0
  refine nn_ok (O5.bt.ld (o := 6) rfl (callB_ok (O5.dead st) fun w6 O6 => ?_))
  refine keep_cons (O6.bt.held1 (o := 6) rfl) (keep_cons (kx O6) (keep_nil (ite_no (by simp) ?_)))
  refine nn_ok (O6.bt.ld (o := 7) rfl (callI_ok (O6.opsN st) fun w7 O7 => ?_))
  refine keep_cons (O7.bt.held1 (o := 7) rfl) (keep_cons (O7.bt.held1 (o := 6) rfl) (keep_cons (kx O7) (keep_nil (ite_no (by simp) ?_))))
  refine nn_ok (O7.bt.ldS (o := 0) rfl (callI_ok (O7.sectors st) fun w8 O8 => ?_))
  refine keep_cons (O8.bt.held1 (o := 0) rfl) (keep_cons (O8.bt.held1 (o := 7) rfl) (keep_cons (O8.bt.held1 (o := 6) rfl) (keep_cons (kx O8) (keep_nil (ite_no ?_ ?_)))))
  · show ((e.plat.length : Int) != (ps.n : Int)) = false
    rw [hpsn]; simp
  refine callS_ok (O8.image st) fun w9 O9 => ?_
  refine keep_cons (O9.bt.held1 (o := 0) rfl) (keep_cons (O9.bt.held1 (o := 7) rfl) (keep_cons (O9.bt.held1 (o := 6) rfl) (keep_cons (kx O9) (keep_nil ?_))))
  refine callS_ok (O9.lookX st fun C hC => rimage_ok ⟨ps, cs, ks, t, c, hC⟩) fun w10 O10 => ?_
  refine keep_cons (O10.bt.held1 (o := 0) rfl) (keep_cons (O10.bt.held1 (o := 7) rfl) (keep_cons (O10.bt.held1 (o := 6) rfl) (keep_cons (kx O10) (keep_nil (hk20 _ _ ⟨?_, O10.untold⟩)))))
  simp

theorem image_load {s : ByteArray} (h : loads s.size = true) : (DM.load s.data.toList).image = s := by
  have hsl : s.data.toList.length = s.size := by simp
  obtain ⟨hm0, hne, hle⟩ := of_decide_eq_true h
  apply ba_ext
  show (rows (chunks s.data.toList (s.data.toList.length / 64))).data.toList = _
  simp only [rows]
  exact chunks_flat _ _ (by omega)

set_option maxRecDepth 100000 in
set_option maxHeartbeats 4000000 in
theorem loads_ok {w0 : World} (s : ByteArray) (l0 : Sl) (l : List AM) (hl : RdA w0 l0 l) :
    Calls Try.prog 8 #[.string s, .slice l0.a l0.n l0.c] w0 fun e w' => e = .returned (.bool true) ∧ Fr noB w0 w' := by
  have hn0 := hl.1
  apply c8
  unfold t8
  refine join1_ok (c := .bool) (fun (b : Bool) w' => (b = false → l.length ≤ 300 ∧ s.size ≤ 300000) ∧ w' = w0) (fun k hk => ?_) ?_
  · refine call_ok (few_ok l0 l hl) ?_
    rintro _ w3 ⟨b, rfl, h300, hw⟩
    replace hw := hw.symm
    subst hw
    refine ⟨((b, ()), ()), rfl, ite_ok (fun h => hk _ _ ⟨(fun e => by cases e), rfl⟩) fun h => hk _ _ ⟨fun e => ⟨h300 (by simpa using h), ?_⟩, rfl⟩⟩
    simp only [decide_eq_false_iff_not] at e
    omega
  rintro b w' ⟨h300, hw⟩
  replace hw := hw.symm
  subst hw
  refine ite_ok (fun h => callB_ok awake_ok fun w3 F3 => ⟨rfl, F3⟩) fun h => ?_
  obtain ⟨h300, hsz⟩ := h300 h
  refine call_ok (load_ok s (by omega)) ?_
  intro e w1 hnew
  cases hb : loads s.size with
  | false =>
    simp only [hb, Bool.false_eq_true, if_false] at hnew
    obtain ⟨rfl, F1⟩ := hnew
    refine ⟨((none, ()), ((2, ()), ())), rfl, ?_⟩
    refine call_ok (rload_ok (w0 := w0) s (by omega)) ?_
    intro e w2 hnew2
    simp only [hb, Bool.false_eq_true, if_false] at hnew2
    obtain ⟨rfl, hw⟩ := hnew2
    replace hw := hw.symm
    subst hw
    refine ⟨((none, ()), ((2, ()), ())), rfl, ?_⟩
    refine join1_ok (c := .bool) (fun (b : Bool) w' => b = true ∧ w' = w1) (fun k hk => ite_no rfl (ite_no rfl (hk _ _ ⟨rfl, rfl⟩))) ?_
    rintro b w' ⟨rfl, hw⟩
    replace hw := hw.symm
    subst hw
    refine ite_yes rfl (join1_ok (c := .bool) (fun (b : Bool) w' => b = true ∧ Fr noB w0 w') (fun k hk => ite_yes rfl (ite_yes rfl (callB_ok awake_ok fun w3 F3 => hk _ _ ⟨rfl, F1.then F3 fun _ _ h => h⟩))) (fun b w' h => ⟨by rw [h.1], h.2⟩))
  | true =>
    simp only [hb, if_true] at hnew
    obtain ⟨p, rfl, hD, F1⟩ := hnew
    have O1 := Sep.first (Fr.refl noB w0) hD F1
    refine ⟨((some ⟨p, 0, none⟩, ()), ((0, ()), ())), rfl, ?_⟩
    refine call_ok (rload_ok (w0 := w0) s (by omega)) ?_
    intro e w2 hnew2
    simp only [hb, if_true] at hnew2
    obtain ⟨q, rfl, hR, F2⟩ := hnew2
    have O2 := O1.beside hR F2
    have him := image_load hb
    refine ⟨((some ⟨q, 0, none⟩, ()), ((0, ()), ())), rfl, ?_⟩
    refine join1_ok (c := .bool) (fun (b : Bool) w' => b = false ∧ w' = w2) (fun k hk => ite_no rfl (ite_no rfl (hk _ _ ⟨rfl, rfl⟩))) ?_
    rintro b w' ⟨rfl, hw⟩
    replace hw := hw.symm
    subst hw
    have hnc : (DM.load s.data.toList).cache.length = 0 := rfl
    have hno : (DM.load s.data.toList).ops = 0 := rfl
    generalize DM.load s.data.toList = d0 at *
    refine ite_no rfl (ite_ok (fun h => ?_) fun h => ?_)
    · refine join1_ok (c := .bool) (fun (b : Bool) w' => b = true ∧ Fr noB w0 w') (fun k hk => ?_) (fun b w' h => ⟨by rw [h.1], h.2⟩)
      refine callS_ok (O2.image (stable_besideR w0 q d0)) fun w3 O3 => ite_yes (by rw [him]; simp) (callB_ok awake_ok fun w4 F4 => hk _ _ ⟨rfl, O3.fr0.then F4 fun _ _ h => h⟩)
    refine join0_ok (fun w' => ∃ e : DM, Sep w0 w' p e (BesideR w0 q e)) (fun kend hkend => ?_) (fun w' ⟨e, O⟩ => ?_)
    rotate_left
    · refine join1_ok (c := .bool) (fun (b : Bool) w' => b = true ∧ Fr noB w0 w') (fun k hk => ?_) (fun b w' h => ⟨by rw [h.1], h.2⟩)
      refine callS_ok (O.image (stable_besideR w0 q e)) fun w3 O3 => callS_ok (O3.lookX (stable_besideR w0 q e) fun C hC => rimage_ok hC) fun w4 O4 => ite_yes (by simp) (callB_ok awake_ok fun w5 F5 => hk _ _ ⟨rfl, O4.fr0.then F5 fun _ _ h => h⟩)
    refine loop1_ok (c := .int .i64) (fun (i : Int) w' => ∃ k : Nat, i = (k : Int) ∧ k ≤ l.length ∧ Sep w0 w' p (d0.acts (l.take k)) (BesideR w0 q (d0.acts (l.take k)))) (fun (i : Int) => l.length - i.toNat) ?_
      ⟨0, rfl, Nat.zero_le _, O2⟩
    rintro rec i w3 ⟨k, rfl, hk, O3⟩ hrec
    refine ite_ok (fun hlt => ?_) fun hge => hkend _ ⟨_, O3⟩
    have hlt : k < l.length := by simp only [decide_eq_true_eq] at hlt; omega
    obtain ⟨x, a, hx, hla, hok, hh, hix⟩ := hl.at hlt
    have hcnt := acts_counts d0 k l
    have estep : d0.acts (l.take (k + 1)) = (d0.acts (l.take k)).act x := by
      rw [List.take_add_one, hx]
      exact acts_app _ _ _
    generalize d0.acts (l.take k) = dk at *
    refine join0_ok (fun w' => Sep w0 w' p (dk.act x) (BesideR w0 q (dk.act x))) (fun k19 hk19 => ?_) (fun w' O => ?_)
    rotate_left
    · rw [← estep] at O
      refine hrec _ _ ⟨k + 1, ?_, hlt, O⟩ ?_
      · rw [wrap_ok (by omega) (by omega)]; omega
      · rw [wrap_ok (by omega) (by omega), Int.toNat_natCast]; omega
    refine join1_ok (c := .bool) (fun (b : Bool) w' => b = false ∧ Sep w0 w' p (dk.act x) (BesideR w0 q (dk.act x))) (fun k20 hk20 => ?_) ?_
    rotate_left
    · rintro b w' ⟨rfl, O⟩
      exact ite_no rfl (hk19 _ O)
    have h4 := hh _ O3.fr0
    rw [hla]
    refine hix ?_
    generalize hAd : a.add (k * 7) = ad at *
    refine ld_ok (c := .int .i64) (x := x.kind) (h4 0 _ rfl) (ld_ok (c := .int .i64) (x := x.at') (h4 1 _ rfl) (ld_ok (c := .str) (x := x.data) (h4 2 _ rfl) (ld_ok (c := .bool) (x := x.raw) (h4 3 _ rfl) (ld_ok (c := .slice) (x := x.ks) (h4 4 _ rfl) (ld_ok (c := .int .i64) (x := x.torn) (h4 5 _ rfl) (ld_ok (c := .int .i64) (x := x.cut) (h4 6 _ rfl) ?_))))))
    refine callB_ok (both_ok O3 x hok (by omega) (by omega)) fun w5 O5 => ite_no rfl ?_
    generalize dk.act x = e at *
    refine callS_ok (O5.image (stable_besideR w0 q e)) fun w6 O6 => callS_ok (O6.lookX (stable_besideR w0 q e) fun C hC => rimage_ok hC) fun w7 O7 => hk20 _ _ ⟨?_, O7⟩
    simp
end Go.Proofs.Ytmklfedlifcoiaa
