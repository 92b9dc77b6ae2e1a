/- DiskArmed. -/
import Derived.Test.YtmklfedlifcoiaaDiskG
namespace Go.Proofs.Ytmklfedlifcoiaa
open Go.Lift

/-- a slice of puts that reads so -/
def RdP (w : World) (s : Sl) (l : List (Int × ByteArray)) : Prop :=
  s.n = l.length ∧ ∀ k x, l[k]? = some x → ∃ a, s.a = some a ∧ w.cell? ((a.add (k * 2)).add 0) = some (.int .i64 x.1) ∧ w.cell? ((a.add (k * 2)).add 1) = some (.string x.2)
theorem RdP.fr {w w' : World} {s : Sl} {l : List (Int × ByteArray)} (h : RdP w s l) (F : Fr noB w w') : RdP w' s l :=
  ⟨h.1, fun k x hx => by
    obtain ⟨a, ha, h1, h2⟩ := h.2 k x hx
    exact ⟨a, ha, F.cell h1 (fun h => h), F.cell h2 (fun h => h)⟩⟩
theorem RdB.low {w : World} {s : Sl} {l : List Bool} (h : RdB w s l) : l ≠ [] → ∀ a, s.a = some a → a.block < w.heap.size := fun hl a ha => by
  obtain ⟨a', ha', hh⟩ := h.2 hl
  rw [ha] at ha'
  cases ha'
  cases l with
  | nil => exact absurd rfl hl
  | cons x l =>
    have := hh 0 (.bool x) rfl
    have := World.block_lt_of_cell? w _ this
    rwa [Addr.add_zero'] at this
theorem RdB.fr0 {w w' : World} {s : Sl} {l : List Bool} (h : RdB w s l) (F : Fr noB w w') : RdB w' s l := h.fr F (fun _ _ _ h => h)

/-- the armed disk beside another one -/
def armedAs (o : DM) (k : Int) (keep : List Bool) (torn cut : Int) : DM := { o with armed := k, keep := keep, torn := torn, cut := cut }

theorem ready_as (o : DM) (k : Int) (keep : List Bool) (torn cut : Int) (i : Int) : (armedAs o k keep torn cut).ready i = o.ready i := rfl
theorem write_refused {d : DM} {i : Int} {s : List UInt8} (h : d.ready i ≠ 0) : d.write i s = (d, d.ready i) := by simp only [DM.write, if_pos h]
theorem write_goes {d : DM} {i : Int} {s : List UInt8} (h : d.ready i = 0) (hs : s.length = 64) (ha : d.armed ≠ 1) : d.write i s = ((d.wrote i.toNat s).fell, 0) := by
  have h' : ¬ d.ready i ≠ 0 := by simpa using h
  have hs' : ¬ s.length ≠ 64 := by simpa using hs
  simp only [DM.write, if_neg h', if_neg hs', if_neg ha]
theorem write_falls {d : DM} {i : Int} {s : List UInt8} (h : d.ready i = 0) (hs : s.length = 64) (ha : d.armed = 1) : d.write i s = ((d.wrote i.toNat s).fell.dropped d.keep d.torn d.cut, 190) := by
  have h' : ¬ d.ready i ≠ 0 := by simpa using h
  have hs' : ¬ s.length ≠ 64 := by simpa using hs
  simp only [DM.write, if_neg h', if_neg hs', if_pos ha]
theorem ready_cases (d : DM) (i : Int) : d.ready i = 0 ∨ d.ready i = 190 ∨ d.ready i = 191 := by
  unfold DM.ready
  split
  · exact .inr (.inl rfl)
  · split
    · exact .inr (.inr rfl)
    · exact .inl rfl

set_option maxRecDepth 100000 in
set_option maxHeartbeats 4000000 in
theorem armed_ok {w0 : World} (l0 : Sl) (l : List (Int × ByteArray)) (hl : RdP w0 l0 l) (at' : Int) (hat : at' ≤ 9223372036854775807) (f : Sl) (keep : List Bool) (torn cut : Int) (hf : RdB w0 f keep) (hk : keep.length ≤ 140737488351232) :
    Calls Try.prog 3 #[.slice l0.a l0.n l0.c, .int .i64 at', .agg #[.slice f.a f.n f.c, .int .i64 torn, .int .i64 cut]] w0 fun e w' => e = .returned (.bool true) ∧ Fr noB w0 w' := by
  apply c3
  unfold t3
  refine new_ok fun w1 m5 hm5 hs1 B5 F1 => ?_
  have hf1 := hf.fr0 F1
  have hl1 := hl.fr F1
  have hlow : keep ≠ [] → ∀ a, f.a = some a → a.block < w1.heap.size := hf1.low
  -- is it asked of?
  refine join1_ok (c := .bool) (fun (b : Bool) w' => (b = false → l.length ≤ 60 ∧ 1 ≤ at' ∧ at' ≤ 200) ∧ w' = w1) (fun k hk => ?_) ?_
  · refine ite_ok (fun h => ite_yes rfl (hk _ _ ⟨(fun e => by cases e), rfl⟩)) fun h => ite_ok (fun h2 => hk _ _ ⟨(fun e => by cases e), rfl⟩) fun h2 => hk _ _ ⟨fun e => ?_, rfl⟩
    simp only [decide_eq_false_iff_not] at h h2 e
    have := hl.1
    omega
  rintro b w1' ⟨hb, hw⟩
  replace hw := hw.symm
  subst hw
  refine ite_ok (fun h => callB_ok awake_ok fun w' F => ⟨rfl, F1.then F fun _ _ h => h⟩) fun h => ?_
  obtain ⟨h60, hat1, hat2⟩ := hb h
  refine callPI_ok (new_lone (Fr.refl noB w1) 9 (by omega) (by omega)) fun p w2 O2 => ?_
  refine callPI_ok (O2.new 9 (by omega) (by omega)) fun q w3 O3 => ?_
  have B53 := B5.fr O3.fr0 (fun h => h)
  refine join1_ok (c := .bool) (fun (b : Bool) w' => b = false ∧ Sep w1 w' p (armedAs (DM.new 9) at' keep torn cut) (Beside q (DM.new 9))) (fun k hk2 => ?_) ?_
  · refine ite_no rfl (ite_no rfl (ite_no rfl (ite_no rfl ?_)))
    refine B53.ldS (o := 0) rfl (B53.ld (o := 1) rfl (B53.ld (o := 2) rfl ?_))
    have harm : (DM.new 9).arm at' keep torn cut = (armedAs (DM.new 9) at' keep torn cut, 0) := by
      have h' : ¬ (DM.new 9).ready 0 ≠ 0 := by decide
      simp only [DM.arm, if_neg h', if_neg (show ¬ at' < 0 by omega)]
      rfl
    have ha := O3.arm (stable_beside q _) at' hat f keep torn cut (hf1.fr0 O3.fr0) hlow hk
    rw [show (9 : Int).toNat = 9 from rfl, harm] at ha
    exact callI_ok ha fun w4 O4 => hk2 _ _ ⟨rfl, O4⟩
  rintro _ w4 ⟨rfl, O4⟩
  refine ite_no rfl ?_
  -- the last test, from equal disks
  refine join0_ok (fun w' => ∃ (m : Nat) (o : DM), (m : Int) < at' ∧ o.dead = false ∧ Sep w1 w' p (armedAs o (at' - m) keep torn cut) (Beside q o)) (fun kend hkend => ?_) ?_
  · refine loop_ok (vs := [.one (.int .i64), .one (.int .i64)])
      (fun xs w' => ∃ (k m : Nat) (o : DM), xs.1.1 = (m : Int) ∧ xs.2.1.1 = (k : Int) ∧ k ≤ l.length ∧ (m : Int) < at' ∧ m ≤ k ∧ o.armed = 0 ∧ o.dead = false ∧ o.ops = m ∧ o.cache.length ≤ k ∧ o.plat.length = 9 ∧
        Sep w1 w' p (armedAs o (at' - m) keep torn cut) (Beside q o))
      (fun xs => l.length - (show Int from xs.2.1.1).toNat) ?_ (xs := ((_, ()), ((_, ()), ()))) ⟨0, 0, DM.new 9, rfl, rfl, Nat.zero_le _, by omega, Nat.le_refl _, rfl, rfl, rfl, Nat.zero_le _, by simp [DM.new], by simpa using O4⟩
    rintro rec ⟨⟨n', ⟨⟩⟩, ⟨⟨i', ⟨⟩⟩, ⟨⟩⟩⟩ w5 ⟨k, m, o, hn', hi', hkl, hmat, hmk, ha0, hd0, hops, hcl, hpl, O5⟩ hrec
    change Int at n' i'
    change n' = (m : Int) at hn'
    change i' = (k : Int) at hi'
    subst hn' hi'
    show joinG [VT.one CT.bool] _ _ _ _
    refine join1_ok (c := .bool) (fun (b : Bool) w' => b = decide (k < l.length) ∧ w' = w5) (fun kj hkj => ?_) ?_
    · refine ite_ok (fun h => hkj _ _ ⟨?_, rfl⟩) fun h => hkj _ _ ⟨?_, rfl⟩
      · have h : (k : Int) < l0.n := by simpa using h
        rw [decide_eq_true hmat, decide_eq_true (by have := hl.1; omega)]
      · have h : ¬ (k : Int) < l0.n := by simpa using h
        rw [decide_eq_false (by have := hl.1; omega)]
    rintro b w5' ⟨rfl, hw⟩
    replace hw := hw.symm
    subst hw
    refine ite_ok (fun hlt => ?_) fun hge => ?_
    · have hlt : k < l.length := by simpa using hlt
      obtain ⟨x, hx⟩ : ∃ x, l[k]? = some x := ⟨_, List.getElem?_eq_getElem hlt⟩
      obtain ⟨a, hla, hc0, hc1⟩ := hl1.2 k x hx
      have hn0 := hl.1
      have rd0 : ∀ {w'}, Fr noB w1 w' → w'.cell? ((a.add (k * 2)).add 0) = some (.int .i64 x.1) := fun F => F.cell hc0 (fun h => h)
      have rd1 : ∀ {w'}, Fr noB w1 w' → w'.cell? ((a.add (k * 2)).add 1) = some (.string x.2) := fun F => F.cell hc1 (fun h => h)
      refine join_in (drew_ok fun w6 F6 _ => ?_)
      have O6 := O5.fr (stable_beside q o) F6
      rw [hla]
      have hix : ∀ {K : Addr → G} {w' : World} {R : Ending → World → Prop}, K (a.add (k * 2)) R w' → idxG (some a) l0.n (k : Int) 2 K R w' := fun h => idx_ok (by omega) (by omega) (by rw [Int.toNat_natCast]; exact h)
      refine hix (ld_ok (c := .int .i64) (x := x.1) (rd0 O6.fr0) (hix (ld_ok (c := .str) (x := x.2) (rd1 O6.fr0) (hix (ld_ok (c := .int .i64) (x := x.1) (rd0 O6.fr0) (hix (ld_ok (c := .str) (x := x.2) (rd1 O6.fr0) ?_)))))))
      refine callS_ok (O6.sector (stable_beside q o) x.2) fun w7 O7 => ?_
      refine keep_cons (held_one (rd1 O7.fr0)) (keep_cons (held_one (rd0 O7.fr0)) (keep_cons (held_one (rd0 O7.fr0)) (keep_nil ?_)))
      refine callI_ok (O7.write (stable_beside q o) x.1 (pad x.2) (by show o.cache.length < _; omega) (by show o.ops < _; omega)) fun w8 O8 => ?_
      refine keep_cons (held_one (rd1 O8.fr0)) (keep_cons (held_one (rd0 O8.fr0)) (keep_nil ?_))
      refine callS_ok (O8.sector (stable_beside q o) x.2) fun w9 O9 => ?_
      refine keep_cons (held_one (rd0 O9.fr0)) (keep_cons (held_one (rd1 O9.fr0)) (keep_nil ?_))
      refine callI_ok (O9.swap.write (stable_beside p _) x.1 (pad x.2) (by omega) (by omega)) fun w10 O10 => ?_
      refine keep_cons (held_one (rd1 O10.fr0)) (keep_cons (held_one (rd0 O10.fr0)) (keep_nil ?_))
      rw [pad_list] at O10 ⊢
      have hs64 := padL_length x.2.data.toList
      generalize padL x.2.data.toList = s at *
      have hw1 : IntKind.wrap .i64 ((k : Int) + 1) = ((k + 1 : Nat) : Int) := by rw [wrap_ok (by omega) (by omega)]; omega
      have hw2 : IntKind.wrap .i64 ((m : Int) + 1) = ((m + 1 : Nat) : Int) := by rw [wrap_ok (by omega) (by omega)]; omega
      have hms : l.length - (show Int from ((k + 1 : Nat) : Int)).toNat < l.length - (show Int from (k : Int)).toNat := by
        show l.length - ((k + 1 : Nat) : Int).toNat < l.length - (k : Int).toNat
        omega
      rcases Decidable.em (o.ready x.1 = 0) with hr | hr
      · have hr' : (armedAs o (at' - m) keep torn cut).ready x.1 = 0 := hr
        have hwo := write_goes hr hs64 (by rw [ha0]; decide)
        rw [hwo] at O10 ⊢
        by_cases hat1' : at' - m = 1
        · -- it falls here
          have hwd := write_falls hr' hs64 (show (armedAs o (at' - m) keep torn cut).armed = 1 from hat1')
          rw [hwd] at O10 ⊢
          refine join1_ok (c := .int .i64) (fun (y : Int) w' => y = at' ∧ w' = w10) (fun kj hkj => ite_yes rfl (hkj _ _ ⟨by rw [hw2]; omega, rfl⟩)) ?_
          rintro y w10' ⟨rfl, hw⟩
          replace hw := hw.symm
          subst hw
          refine join1_ok (c := .bool) (fun (y : Bool) w' => y = true ∧ w' = w10) (fun kj hkj => ite_yes (by simp) (hkj _ _ ⟨rfl, rfl⟩)) ?_
          rintro _ w10' ⟨rfl, hw⟩
          replace hw := hw.symm
          subst hw
          refine ite_yes rfl ?_
          refine join1_ok (c := .bool) (fun (b : Bool) w' => b = true ∧ Fr noB w0 w') (fun kj hkj => ?_) (fun b w' h => ⟨by rw [h.1], h.2⟩)
          refine ite_yes rfl ?_
          have B510 := B5.fr O10.fr0 (fun h => h)
          refine B510.ldS (o := 0) rfl (B510.ld (o := 1) rfl (B510.ld (o := 2) rfl ?_))
          have hr0 : (o.wrote x.1.toNat s).fell.ready 0 = 0 := by
            show (if o.dead then (190 : Int) else if (0 : Int) < 0 ∨ (o.plat.length : Int) ≤ 0 then 191 else 0) = 0
            rw [hd0, hpl]
            rfl
          have hcr := O10.crash (stable_beside p _) f keep torn cut (hf1.fr0 O10.fr0) hlow
          rw [hr0] at hcr
          refine callI_ok hcr fun w11 O11 => ite_yes rfl ?_
          rw [if_neg (by decide)] at O11
          refine callB_ok (O11.swap.dead (stable_beside q _)) fun w12 O12 => ite_yes rfl ?_
          refine callS_ok (O12.image (stable_beside q _)) fun w13 O13 => ?_
          refine callS_ok (O13.swap.image (stable_beside p _)) fun w14 O14 => ?_
          refine ite_yes (beq_iff_eq.2 rfl) ?_
          refine callI_ok (O14.swap.opsN (stable_beside q _)) fun w15 O15 => ?_
          refine callI_ok (O15.swap.opsN (stable_beside p _)) fun w16 O16 => ?_
          refine ite_yes (beq_iff_eq.2 rfl) ?_
          exact callB_ok awake_ok fun w17 F17 => hkj _ _ ⟨rfl, (F1.then O16.fr0 fun _ _ h => h).then F17 fun _ _ h => h⟩
        · have hwd := write_goes hr' hs64 (show (armedAs o (at' - m) keep torn cut).armed ≠ 1 from hat1')
          rw [hwd] at O10 ⊢
          refine join1_ok (c := .int .i64) (fun (y : Int) w' => y = ((m + 1 : Nat) : Int) ∧ w' = w10) (fun kj hkj => ite_yes rfl (hkj _ _ ⟨hw2, rfl⟩)) ?_
          rintro y w10' ⟨rfl, hw⟩
          replace hw := hw.symm
          subst hw
          refine join1_ok (c := .bool) (fun (y : Bool) w' => y = false ∧ w' = w10) (fun kj hkj => ite_no (beq_eq_false_iff_ne.2 (by omega)) (hkj _ _ ⟨rfl, rfl⟩)) ?_
          rintro _ w10' ⟨rfl, hw⟩
          replace hw := hw.symm
          subst hw
          refine ite_no rfl (ite_no rfl ?_)
          rw [hw1]
          refine hrec ((_, ()), ((_, ()), ())) w10 ⟨k + 1, m + 1, (o.wrote x.1.toNat s).fell, rfl, rfl, hlt, by omega, by omega, ?_, hd0, ?_, ?_, hpl, ?_⟩ hms
          · show (if o.armed = 0 then 0 else o.armed - 1) = 0
            rw [if_pos ha0]
          · show o.ops + 1 = _
            rw [hops]; omega
          · show (o.cache ++ [(x.1.toNat, s)]).length ≤ k + 1
            simp; omega
          · have e : armedAs (o.wrote x.1.toNat s).fell (at' - ((m + 1 : Nat) : Int)) keep torn cut = ((armedAs o (at' - m) keep torn cut).wrote x.1.toNat s).fell := by
              have e0 : (if at' - (m : Int) = 0 then (0 : Int) else at' - (m : Int) - 1) = at' - ((m + 1 : Nat) : Int) := by rw [if_neg (by omega)]; omega
              show armedAs (o.wrote x.1.toNat s).fell (at' - ((m + 1 : Nat) : Int)) keep torn cut = { (armedAs o (at' - m) keep torn cut).wrote x.1.toNat s with ops := o.ops + 1, armed := if at' - (m : Int) = 0 then (0 : Int) else at' - (m : Int) - 1 }
              rw [e0]
              rfl
            rw [e]
            exact O10.swap
      · have hr' : (armedAs o (at' - m) keep torn cut).ready x.1 ≠ 0 := hr
        have hwo := write_refused (s := s) hr
        have hwd := write_refused (s := s) hr'
        rw [hwo, hwd] at O10 ⊢
        refine join1_ok (c := .int .i64) (fun (y : Int) w' => y = (m : Int) ∧ w' = w10) (fun kj hkj => ite_no (beq_eq_false_iff_ne.2 hr) (hkj _ _ ⟨rfl, rfl⟩)) ?_
        rintro y w10' ⟨rfl, hw⟩
        replace hw := hw.symm
        subst hw
        refine join1_ok (c := .bool) (fun (y : Bool) w' => y = false ∧ w' = w10) (fun kj hkj => ite_no (beq_eq_false_iff_ne.2 (by omega)) (hkj _ _ ⟨rfl, rfl⟩)) ?_
        rintro _ w10' ⟨rfl, hw⟩
        replace hw := hw.symm
        subst hw
        refine ite_no rfl (ite_no (by show ((o.ready x.1) != (o.ready x.1)) = false; simp) ?_)
        rw [hw1]
        exact hrec ((_, ()), ((_, ()), ())) w10 ⟨k + 1, m, o, rfl, rfl, hlt, hmat, by omega, ha0, hd0, hops, by omega, hpl, O10.swap⟩ hms
    · have hge : ¬ k < l.length := by simpa using hge
      exact hkend _ ⟨m, o, hmat, hd0, O5⟩
  rintro w5 ⟨m, o, hmat, hd0, O5⟩
  refine join1_ok (c := .bool) (fun (b : Bool) w' => b = true ∧ Fr noB w0 w') (fun k hk2 => ?_) (fun b w' h => ⟨by rw [h.1], h.2⟩)
  refine callB_ok (O5.dead (stable_beside q o)) fun w6 O6 => ?_
  refine ite_yes (by show (!o.dead) = true; rw [hd0]; rfl) ?_
  refine callS_ok (O6.image (stable_beside q o)) fun w7 O7 => ?_
  refine callS_ok (O7.swap.image (stable_beside p _)) fun w8 O8 => ?_
  refine ite_yes (by show (o.image.toList == o.image.toList) = true; simp) ?_
  refine callI_ok (O8.swap.opsN (stable_beside q o)) fun w9 O9 => ?_
  refine callI_ok (O9.swap.opsN (stable_beside p _)) fun w10 O10 => ?_
  refine ite_yes (by show (o.ops == o.ops) = true; simp) ?_
  exact callB_ok awake_ok fun w11 F11 => hk2 _ _ ⟨rfl, (F1.then O10.fr0 fun _ _ h => h).then F11 fun _ _ h => h⟩
end Go.Proofs.Ytmklfedlifcoiaa
