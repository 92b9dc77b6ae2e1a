/- New and Load, the program's and the document's. -/
import Derived.Test.YtmklfedlifcoiaaRefC
namespace Go.Lift
section
variable {P : Program} {R : Ending → World → Prop} {w : World}
/-- copy of a text's first bytes -/
theorem copyM_ok {b o dn dc : Nat} {dT sT ty elem : TypeId} (hu : P.underlying dT = some (.slice elem)) (hs : (P.info? elem).map (·.size) = some 1)
    {t : TypeId} {l : List Value} (B : Blk w b t l) {s : ByteArray} {m : Nat} (hm : m = min s.size dn) (hfit : o + m ≤ l.length)
    {k : Int → G} (h : ∀ w', Blk w' b t (l.take o ++ (byteCells (s.data.toList.take m) ++ l.drop (o + m))) → Fr (oneB b) w w' → w'.heap.size = w.heap.size → k m R w') :
    opG P (Builtin.copy_ #[dT, sT] ty #[.slice (some ⟨b, o, none⟩) dn dc, .string s]) (.one (.int .i64)) k R w := by
  have hsl : s.data.toList.length = s.size := by simp
  have hlen : (byteCells (s.data.toList.take m)).length = m := by simp only [byteCells, List.length_map, List.length_take]; omega
  have hst := run_storeCells_at P b o t (byteCells (s.data.toList.take m)) 0 l.toArray w B (by rw [hlen]; simpa using hfit) (fun v hv => by obtain ⟨x, _, rfl⟩ := List.mem_map.1 hv; rfl)
  have hmin : Nat.min s.size dn = m := hm.symm
  refine ⟨((m : Int), ()), w.setRow b (l.take o ++ byteCells (s.data.toList.take m) ++ l.drop (o + m)).toArray, ?_, h _ ?_ (fr_setRow w b _) (by simp)⟩
  · cases hq : P.info? elem with
    | none => simp [hq] at hs
    | some i =>
      have hi : i.size = 1 := by simpa [hq] using hs
      simp only [Nat.add_zero, hlen] at hst
      simp only [Builtin.copy_, List.getElem?_toArray, List.getElem?_cons_zero, List.getElem?_cons_succ, run_u hu, Result.andThen_ok, Sem.run_bind]
      have ht : List.take m (List.map (fun b => Value.int .u8 (b.toNat : Int)) s.data.toList) = byteCells (s.data.toList.take m) := by simp [byteCells, List.map_take]
      simp [ht, hst, Builtin.lenOf, Builtin.firstCells, hmin, run_size hq, hi, goInt, VT.val, CT.val]
  · rw [← List.append_assoc]
    exact B.row _
end
end Go.Lift
namespace Go.Proofs.Ytmklfedlifcoiaa
open Go.Lift

/-- the rows of a text -/
def chunks (l : List UInt8) : Nat → List (List UInt8)
  | 0 => []
  | n + 1 => l.take 64 :: chunks (l.drop 64) n
theorem chunks_length : ∀ (n : Nat) (l : List UInt8), (chunks l n).length = n
  | 0, _ => rfl
  | n + 1, l => by rw [chunks, List.length_cons, chunks_length n]
theorem chunks_at : ∀ (n : Nat) (l : List UInt8) (k : Nat), k < n → (chunks l n)[k]? = some ((l.drop (64 * k)).take 64)
  | 0, _, _, h => by omega
  | n + 1, l, 0, _ => by simp [chunks]
  | n + 1, l, k + 1, h => by
    rw [chunks, List.getElem?_cons_succ, chunks_at n _ k (by omega), List.drop_drop]
    congr 3
    omega
theorem chunks_len : ∀ (n : Nat) (l : List UInt8), 64 * n ≤ l.length → ∀ x ∈ chunks l n, x.length = 64
  | 0, _, _, x, hx => by cases hx
  | n + 1, l, h, x, hx => by
    rcases List.mem_cons.1 hx with rfl | hx
    · rw [List.length_take]; omega
    · exact chunks_len n (l.drop 64) (by rw [List.length_drop]; omega) x hx
theorem chunks_flat : ∀ (n : Nat) (l : List UInt8), l.length = 64 * n → (chunks l n).flatten = l
  | 0, l, h => by rw [List.eq_nil_of_length_eq_zero (by omega : l.length = 0)]; rfl
  | n + 1, l, h => by
    rw [chunks, List.flatten_cons, chunks_flat n (l.drop 64) (by rw [List.length_drop]; omega), List.take_append_drop]
def DM.load (l : List UInt8) : DM := { plat := chunks l (l.length / 64), cache := [], keep := [], torn := 0, cut := 0, armed := 0, ops := 0, dead := false }

/-- what the document's disk is, as it is made -/
theorem rmade {w0 w : World} {m : Nat} {s : Sl} {pl : List (List UInt8)} (hb : Blk w m 56 [.slice s.a s.n s.c, .slice none 0 0, .int .i64 0, .slice none 0 0, .int .i64 0, .int .i64 0, .bool false, .int .i64 0])
    (ho : w.ownsRow (m + 1) 9 1 (.slice s.a s.n s.c) pl.length (pl.map sv)) (hlen : ∀ x ∈ pl, x.length = 64) (hpos : 0 < pl.length) (hbig : pl.length ≤ 4096) :
    RAt w0 w m { plat := pl, cache := [], keep := [], torn := 0, cut := 0, armed := 0, ops := 0, dead := false } (fun k => m ≤ k ∧ k < w.heap.size) := by
  have hblk : ∀ a, s.a = some a → m + 1 ≤ a.block ∧ a.block < w.heap.size := fun a ha => ho.lt _ (by simp [Value.ownBlock, ha])
  refine ⟨s, ⟨none, 0, 0⟩, ⟨none, 0, 0⟩, 0, 0, ?_, ?_⟩
  · exact {
      blk := by simpa using hb
      plat := own_base ho
      cache := World.ownsRow_nil _ _ _ _
      len := hlen
      cwf := fun x hx => by simp at hx
      pos := hpos
      big := hbig
      fall := fun h => absurd rfl h
      arm0 := Int.le_refl _
      armU := by simp
      ops0 := Int.le_refl _
      s1 := fun a ha => by have := hblk a ha; omega
      s2 := fun a ha => by cases ha }
  · rintro k (h | ⟨a, ha, h⟩ | ⟨a, ha, h⟩)
    · have := hb.lt; omega
    · have := hblk a ha; omega
    · cases ha

set_option maxHeartbeats 1000000 in
theorem rnew_ok {w0 w : World} (n : Int) : Calls Try.prog 22 #[.int .i64 n] w fun e w' =>
    if n < 1 ∨ n > 4096 then e = .returned (.tuple #[.pointer none, .int .i64 2]) ∧ w' = w else
      ∃ q, e = .returned (.tuple #[.pointer (some ⟨q, 0, none⟩), .int .i64 0]) ∧ RAt w0 w' q (DM.new n.toNat) (Grow noB w w') ∧ Fr noB w w' := by
  apply c22
  unfold t22
  by_cases hn : n < 1 ∨ n > 4096
  · simp only [if_pos hn]
    refine join1_ok (c := .bool) (fun (y : Bool) w' => y = true ∧ w' = w) (fun kj hkj => ?_) ?_
    · exact ite_ok (fun _ => hkj _ _ ⟨rfl, rfl⟩) fun h => hkj _ _ ⟨by simp at h ⊢; omega, rfl⟩
    · rintro y w' ⟨rfl, rfl⟩
      exact ite_yes rfl ⟨rfl, rfl⟩
  simp only [if_neg hn]
  refine join1_ok (c := .bool) (fun (y : Bool) w' => y = false ∧ w' = w) (fun kj hkj => ?_) ?_
  · exact ite_ok (fun h => by simp at h; omega) fun h => hkj _ _ ⟨by simp; omega, rfl⟩
  rintro y w' ⟨rfl, hw⟩
  replace hw := hw.symm
  subst hw
  obtain ⟨m, rfl⟩ := Int.eq_ofNat_of_zero_le (show 0 ≤ n by omega)
  refine ite_no rfl (new_ok fun w1 q hq hs1 B1 F1 => ?_)
  obtain ⟨i, z, hi, hz, h1, h2, h3⟩ := row5
  refine make_ok u75 hi hz (by omega) (by omega) (by rw [h2]; omega) (by omega) fun w2 b hb hs2 B2 F2 => ?_
  rw [h3, h1] at B2
  rw [show (#[Value.int .u8 0] : Array Value) = Array.replicate 1 (.int .u8 0) from rfl, made_rep _ _ _ (by omega), Nat.mul_one] at B2
  refine back_ok (n := 64) (l := List.replicate 64 0) (by simp) ⟨by simp [bv], .inr ⟨b, 64, _, rfl, Nat.zero_le _, B2, Nat.le_refl _, by unfold maxLen; omega, by simp, by simp [bv, u8]⟩⟩ ?_
  have hBq := B1.fr F2 (fun h => h)
  refine join0_ok (fun w' => ∃ s : Sl, Blk w' q 56 [.slice s.a s.n s.c, .slice none 0 0, .int .i64 0, .slice none 0 0, .int .i64 0, .int .i64 0, .bool false, .int .i64 0] ∧
    w'.ownsRow (q + 1) 9 1 (.slice s.a s.n s.c) m ((List.replicate m (List.replicate 64 0)).map sv) ∧ Fr noB w w') (fun kend hkend => ?_) (fun w3 ⟨s, hB, hown, F3⟩ => ?_)
  rotate_left
  · refine ⟨q, rfl, (rmade (w0 := w0) (pl := List.replicate m (List.replicate 64 0)) hB (by simpa using hown) (fun x hx => by rw [(List.mem_replicate.1 hx).2]; simp) (by simp; omega) (by simp; omega)).mono (fun k hk => .inr ⟨by omega, hk.2⟩), F3⟩
  refine loop1_ok (c := .int .i64) (fun (i : Int) w' => ∃ (k : Nat) (s : Sl), i = (k : Int) ∧ k ≤ m ∧ Blk w' q 56 [.slice s.a s.n s.c, .slice none 0 0, .int .i64 0, .slice none 0 0, .int .i64 0, .int .i64 0, .bool false, .int .i64 0] ∧
    w'.ownsRow (q + 1) 9 1 (.slice s.a s.n s.c) k ((List.replicate k (List.replicate 64 0)).map sv) ∧ Fr noB w w') (fun (i : Int) => m - i.toNat) ?_
    ⟨0, ⟨none, 0, 0⟩, rfl, Nat.zero_le _, by simpa using hBq, World.ownsRow_nil _ _ _ _, F1.then F2 fun _ _ h => h⟩
  rintro rec j w3 ⟨k, s, rfl, hk, hB, hown, F3⟩ hrec
  refine ite_ok (fun hlt => ?_) fun hge => ?_
  rotate_left
  · have hge : k = m := by simp only [decide_eq_false_iff_not] at hge; omega
    subst hge
    exact hkend _ ⟨s, hB, hown, F3⟩
  have hlt : k < m := by simp only [decide_eq_true_eq] at hlt; omega
  refine join_in (nn_ok (hB.ldS (o := 0) rfl (assume_ok rfl (new_ok fun w4 m12 hm12 hs4 B12 F4 => ?_))))
  obtain ⟨i9, z9, hi9, hz9, g1, g2, g3⟩ := row9
  have hlt3 := hB.lt
  refine appendB_ok u42 hi9 hz9 g1 g2 g3 (by omega) (s := ⟨s.a, s.n, s.c⟩) (own_fr0 hown F4) (m := 1) (news := [sv (List.replicate 64 0)]) rfl (B12.held fun j v hj => by rw [Nat.zero_add]; exact hj) (fun u hu => by rw [List.mem_singleton.1 hu]; rfl) (by unfold maxLen; omega) (by omega) (by omega) fun s' w5 hown5 F5 => ?_
  have hB5 := (hB.fr F4 (fun h => h)).fr F5 (by omega)
  refine nn_ok (hB5.st (o := 0) rfl (by simp) fun w6 hB6 F6 => ?_)
  refine hrec _ _ ⟨k + 1, s', ?_, hlt, by simpa using hB6, ?_, ((F3.then F4 (fun _ _ h => h)).then F5 (fun y hy h => (show False by omega))).then F6 (fun y hy h => (show False by unfold oneB at h; omega))⟩ ?_
  · rw [wrap_ok (by omega) (by omega)]; omega
  · rw [List.replicate_succ', List.map_append]
    exact own_fr hown5 F6 fun b hb e => by have := hown5.lt _ hb; unfold oneB at e; omega
  · rw [wrap_ok (by omega) (by omega), Int.toNat_natCast]; omega

/-- is a text a disk's? -/
def loads (n : Nat) : Bool := decide (n % 64 = 0 ∧ n ≠ 0 ∧ n ≤ 262144)
theorem tmod64 (n : Nat) : Int.tmod (n : Int) 64 = ((n % 64 : Nat) : Int) := by
  rw [Int.tmod_eq_emod_of_nonneg (by omega)]
  omega
theorem tdiv64 (n : Nat) : Int.tdiv (n : Int) 64 = ((n / 64 : Nat) : Int) := by
  rw [Int.tdiv_eq_ediv_of_nonneg (by omega)]
  omega

set_option maxHeartbeats 1000000 in
theorem rload_ok {w0 w : World} (s : ByteArray) (hbig : s.size ≤ 4611686018427387904) : Calls Try.prog 29 #[.string s] w fun e w' =>
    if loads s.size = true then ∃ q, e = .returned (.tuple #[.pointer (some ⟨q, 0, none⟩), .int .i64 0]) ∧ RAt w0 w' q (DM.load s.data.toList) (Grow noB w w') ∧ Fr noB w w'
    else e = .returned (.tuple #[.pointer none, .int .i64 2]) ∧ w' = w := by
  have hsl : s.data.toList.length = s.size := by simp
  apply c29
  unfold t29
  rw [tmod64]
  refine join1_ok (c := .bool) (fun (y : Bool) w' => y = !loads s.size ∧ w' = w) (fun kj hkj => assume_ok rfl ?_) ?_
  · refine ite_ok (fun h => ite_yes rfl (hkj _ _ ⟨?_, rfl⟩)) fun h => ite_ok (fun h2 => hkj _ _ ⟨?_, rfl⟩) fun h2 => hkj _ _ ⟨?_, rfl⟩
    · have h : ¬ s.size % 64 = 0 := by intro e; rw [e] at h; simp at h
      simp [loads, h]
    · have h2 : s.size = 0 := by have : (s.size : Int) = 0 := by simpa using h2
                                 omega
      simp [loads, h2]
    · have h : s.size % 64 = 0 := by have : ((s.size % 64 : Nat) : Int) = 0 := by simpa using h
                                     omega
      have h2 : s.size ≠ 0 := by intro e; rw [e] at h2; simp at h2
      unfold loads
      simp only [h, h2, ne_eq, not_false_eq_true, true_and]
      by_cases h3 : s.size ≤ 262144
      · rw [decide_eq_true h3, decide_eq_false (by omega)]; rfl
      · rw [decide_eq_false h3, decide_eq_true (by omega)]; rfl
  rintro y w' ⟨hy, hw⟩
  replace hw := hw.symm
  subst hw
  change Bool at y
  cases hl : loads s.size with
  | false =>
    rw [hl] at hy
    subst hy
    exact ite_yes rfl ⟨rfl, rfl⟩
  | true =>
    rw [hl] at hy
    subst hy
    obtain ⟨hm0, hne, hle⟩ := of_decide_eq_true hl
    obtain ⟨m, hm⟩ : ∃ m, s.size = 64 * m := ⟨s.size / 64, by omega⟩
    have hdiv : s.size / 64 = m := by omega
    refine ite_no rfl (new_ok fun w1 q hq hs1 B1 F1 => ?_)
    have hld : DM.load s.data.toList = { plat := chunks s.data.toList m, cache := [], keep := [], torn := 0, cut := 0, armed := 0, ops := 0, dead := false } := by
      unfold DM.load
      rw [hsl, hdiv]
    rw [hld]
    refine join0_ok (fun w' => ∃ s' : Sl, Blk w' q 56 [.slice s'.a s'.n s'.c, .slice none 0 0, .int .i64 0, .slice none 0 0, .int .i64 0, .int .i64 0, .bool false, .int .i64 0] ∧
      w'.ownsRow (q + 1) 9 1 (.slice s'.a s'.n s'.c) m ((chunks s.data.toList m).map sv) ∧ Fr noB w w') (fun kend hkend => ?_) (fun w3 ⟨s', hB, hown, F3⟩ => ?_)
    rotate_left
    · exact ⟨q, rfl, (rmade (w0 := w0) hB (by rw [chunks_length]; exact hown) (chunks_len m _ (by omega)) (by rw [chunks_length]; omega) (by rw [chunks_length]; omega)).mono (fun k hk => .inr ⟨by omega, hk.2⟩), F3⟩
    refine loop1_ok (c := .int .i64) (fun (i : Int) w' => ∃ (k : Nat) (s' : Sl), i = (64 * k : Nat) ∧ k ≤ m ∧ Blk w' q 56 [.slice s'.a s'.n s'.c, .slice none 0 0, .int .i64 0, .slice none 0 0, .int .i64 0, .int .i64 0, .bool false, .int .i64 0] ∧
      w'.ownsRow (q + 1) 9 1 (.slice s'.a s'.n s'.c) k (((chunks s.data.toList m).take k).map sv) ∧ Fr noB w w') (fun (i : Int) => s.size - i.toNat) ?_
      ⟨0, ⟨none, 0, 0⟩, rfl, Nat.zero_le _, by simpa using B1, World.ownsRow_nil _ _ _ _, F1⟩
    rintro rec j w3 ⟨k, s', rfl, hk, hB, hown, F3⟩ hrec
    refine ite_ok (fun hlt => ?_) fun hge => ?_
    rotate_left
    · have hge : k = m := by simp only [decide_eq_false_iff_not] at hge; omega
      subst hge
      rw [List.take_of_length_le (by rw [chunks_length]; omega)] at hown
      exact hkend _ ⟨s', hB, hown, F3⟩
    have hlt : k < m := by simp only [decide_eq_true_eq] at hlt; omega
    have hch := chunks_at m s.data.toList k hlt
    refine join_in (drew_ok fun w4 F4 hs4 => ?_)
    have hB4 := hB.fr F4 (fun h => h)
    rw [wrap_ok (by omega) (by omega)]
    refine nn_ok (hB4.ldS (o := 0) rfl (sub_ok (by omega) (by omega) (by omega) (assume_ok rfl (new_ok fun w5 m11 hm11 hs5 B11 F5 => ?_))))
    have hB5 := hB4.fr F5 (fun h => h)
    refine keep_cons (hB5.held1 (o := 0) rfl) (keep_nil ?_)
    obtain ⟨i9, z9, hi9, hz9, g1, g2, g3⟩ := row9
    have hlt4 := hB4.lt
    have e1 : ((64 * k : Nat) : Int).toNat = 64 * k := by omega
    have e2 : (((64 * k : Nat) : Int) + 64).toNat = 64 * k + 64 := by omega
    have esub : s.extract (((64 * k : Nat) : Int)).toNat ((((64 * k : Nat) : Int) + 64)).toNat = bs ((s.data.toList.drop (64 * k)).take 64) := by
      apply ba_ext
      rw [extract_list, bs_list, e1, e2, Nat.add_sub_cancel_left]
    rw [esub] at B11
    have F45 := F4.then F5 (fun _ _ h => h)
    refine appendB_ok u42 hi9 hz9 g1 g2 g3 (by omega) (s := ⟨s'.a, s'.n, s'.c⟩) (own_fr0 hown F45) (m := 1) (news := [sv ((s.data.toList.drop (64 * k)).take 64)]) rfl (B11.held fun j v hj => by rw [Nat.zero_add]; exact hj) (fun u hu => by rw [List.mem_singleton.1 hu]; rfl) (by unfold maxLen; omega) (by omega) (by omega) fun s2 w6 hown6 F6 => ?_
    have hB6 := hB5.fr F6 (by omega)
    refine nn_ok (hB6.st (o := 0) rfl (by simp) fun w7 hB7 F7 => ?_)
    refine hrec _ _ ⟨k + 1, s2, ?_, hlt, by simpa using hB7, ?_, ((F3.then F45 (fun _ _ h => h)).then F6 (fun y hy h => (show False by omega))).then F7 (fun y hy h => (show False by unfold oneB at h; omega))⟩ ?_
    · omega
    · rw [List.take_add_one, hch, List.map_append]
      exact own_fr hown6 F7 fun b hb e => by have := hown6.lt _ hb; unfold oneB at e; omega
    · omega

set_option maxHeartbeats 1000000 in
theorem load_ok {w : World} (s : ByteArray) (hbig : s.size ≤ 4611686018427387904) : Calls Try.prog 28 #[.string s] w fun e w' =>
    if loads s.size = true then ∃ p, e = .returned (.tuple #[.pointer (some ⟨p, 0, none⟩), .int .i64 0]) ∧ DAt w' p (DM.load s.data.toList) (Grow noB w w') ∧ Fr noB w w'
    else e = .returned (.tuple #[.pointer none, .int .i64 2]) ∧ Fr noB w w' := by
  have hsl : s.data.toList.length = s.size := by simp
  apply c28
  unfold t28
  rw [tmod64, tdiv64]
  refine assume_ok rfl (ite_ok (fun h => ?_) fun h => assume_ok rfl ?_)
  · have h : ¬ s.size % 64 = 0 := by intro e; rw [e] at h; simp at h
    have hl : loads s.size = false := by simp [loads, h]
    rw [hl]
    exact ⟨rfl, Fr.refl _ _⟩
  have h : s.size % 64 = 0 := by have : ((s.size % 64 : Nat) : Int) = 0 := by simpa using h
                                 omega
  obtain ⟨m, hm⟩ : ∃ m, s.size = 64 * m := ⟨s.size / 64, by omega⟩
  have hdiv : s.size / 64 = m := by omega
  rw [wrap_ok (by omega) (by omega), hdiv]
  refine call_ok (new_disk_ok (m : Int)) ?_
  intro e w1 hnew
  by_cases hb : (m : Int) < 1 ∨ (m : Int) > 4096
  · rw [if_pos hb] at hnew
    obtain ⟨rfl, rfl⟩ := hnew
    refine ⟨((none, ()), ((2, ()), ())), rfl, ite_yes rfl ?_⟩
    have hl : loads s.size = false := by unfold loads; rw [decide_eq_false]; omega
    rw [hl]
    exact ⟨rfl, Fr.refl _ _⟩
  rw [if_neg hb] at hnew
  obtain ⟨p, rfl, ⟨bp, cs, ks, D, hB⟩, F1⟩ := hnew
  refine ⟨((some ⟨p, 0, none⟩, ()), ((0, ()), ())), rfl, ite_no rfl ?_⟩
  have hl : loads s.size = true := by unfold loads; rw [decide_eq_true]; omega
  simp only [hl, if_true]
  have hld : DM.load s.data.toList = { plat := chunks s.data.toList m, cache := [], keep := [], torn := 0, cut := 0, armed := 0, ops := 0, dead := false } := by
    unfold DM.load
    rw [hsl, hdiv]
  rw [hld]
  have hml : (DM.new (m : Int).toNat).plat.length = m := by simp [DM.new]
  have hpl : (chunks s.data.toList m).length = m := chunks_length _ _
  have hc64 := chunks_len m s.data.toList (by omega)
  refine nn_ok (D.blk.ldS (o := 0) rfl ?_)
  refine join0_ok (fun w' => Blk w' bp 72 ((chunks s.data.toList m).flatMap bv) ∧ Fr (oneB bp) w1 w') (fun kend hkend => ?_) (fun w3 ⟨hP, F3⟩ => ?_)
  rotate_left
  · refine ⟨p, rfl, ⟨bp, cs, ks, ?_, fun k hk => ?_⟩, F1.then F3 fun y hy e => ?_⟩
    · have D3 := D.blk.fr F3 D.s1
      exact {
        blk := by simpa [DM.cells, DM.new, hpl] using D3
        plat := hP
        len := hc64
        pos := by rw [hpl]; omega
        big := by rw [hpl]; omega
        cache := own_cell D.cache F3 fun b hb e => by
          simp only [Value.ownBlock] at hb
          cases ha : cs.a with
          | none => simp [ha] at hb
          | some a => simp [ha] at hb; exact (D.s2 a ha).2 (hb.trans e)
        cwf := fun x hx => by simp at hx
        keep := ⟨D.keep.1, fun h => absurd rfl h⟩
        arm0 := Int.le_refl _
        armU := by simp
        ops0 := Int.le_refl _
        s1 := D.s1
        s2 := D.s2
        s3 := fun h => absurd rfl h }
    · have := hB k hk
      have := F3.size
      rcases hB k hk with h | h
      · exact h.elim
      · exact .inr ⟨h.1, by omega⟩
    · have h := hB bp (.inr (.inl rfl))
      unfold oneB at e
      rcases h with h | h
      · exact h.elim
      · show False; omega
  refine loop1_ok (c := .int .i64) (fun (i : Int) w' => ∃ k : Nat, i = (k : Int) ∧ k ≤ m ∧ Blk w' bp 72 ((((chunks s.data.toList m).take k) ++ List.replicate (m - k) (List.replicate 64 0)).flatMap bv) ∧ Fr (oneB bp) w1 w') (fun (i : Int) => m - i.toNat) ?_
    ⟨0, rfl, Nat.zero_le _, by simpa [DM.new] using D.plat, Fr.refl _ _⟩
  rintro rec j w3 ⟨k, rfl, hk, hP, F3⟩ hrec
  rw [show ((⟨some ⟨bp, 0, none⟩, (DM.new (m : Int).toNat).plat.length, (DM.new (m : Int).toNat).plat.length⟩ : Sl).n) = m from hml]
  refine ite_ok (fun hlt => ?_) fun hge => ?_
  rotate_left
  · have hge : k = m := by simp only [decide_eq_false_iff_not] at hge; omega
    subst hge
    rw [List.take_of_length_le (by omega), Nat.sub_self, List.replicate_zero, List.append_nil] at hP
    exact hkend _ ⟨hP, F3⟩
  have hlt : k < m := by simp only [decide_eq_true_eq] at hlt; omega
  have hch := chunks_at m s.data.toList k hlt
  refine join_in (drew_ok fun w4 F4 hs4 => ?_)
  have hD4 := (D.blk.fr F3 D.s1).fr F4 (fun h => h)
  have hP4 := hP.fr F4 (fun h => h)
  refine nn_ok (hD4.ldS (o := 0) rfl ?_)
  refine idxB_ok (by rw [show ((⟨some ⟨bp, 0, none⟩, (DM.new (m : Int).toNat).plat.length, (DM.new (m : Int).toNat).plat.length⟩ : Sl).n) = m from hml]; exact hlt) (assume_ok rfl (reslice_ok (by omega) (by omega) (by omega) (by omega) ?_))
  rw [wrap_ok (by omega) (by omega)]
  refine sub_ok (by omega) (by omega) (by omega) ?_
  have e1 : ((k : Int) * 64).toNat = 64 * k := by omega
  have e2 : ((s.size : Int)).toNat = s.size := by omega
  rw [e1, e2]
  have hxs : (s.extract (64 * k) s.size).size = s.size - 64 * k := by rw [ByteArray.size_extract]; omega
  have hpre : ∀ x ∈ ((chunks s.data.toList m).take k ++ List.replicate (m - k) (List.replicate 64 0)), x.length = 64 := fun x hx => by
    rcases List.mem_append.1 hx with hx | hx
    · exact hc64 x (List.mem_of_mem_take hx)
    · rw [(List.mem_replicate.1 hx).2]; simp
  have hprel : ((chunks s.data.toList m).take k ++ List.replicate (m - k) (List.replicate 64 0)).length = m := by
    rw [List.length_append, List.length_take, List.length_replicate]; omega
  have hfl : (((chunks s.data.toList m).take k ++ List.replicate (m - k) (List.replicate 64 0)).flatMap bv).length = m * 64 := by
    rw [flat_length bv 64 (fun y hy => by rw [bv_length]; exact hpre y hy), hprel]
  refine copyM_ok u75 i5 (m := 64) hP4 (by rw [hxs]; show 64 = min (s.size - 64 * k) 64; omega) (by rw [hfl]; omega) fun w5 hP5 F5 hs5 => ?_
  have hD5 := hD4.fr F5 D.s1
  refine keep_cons (hD5.held1 (o := 0) rfl) (keep_nil ?_)
  refine hrec _ _ ⟨k + 1, ?_, hlt, ?_, (F3.then F4 (fun _ _ h => h.elim)).then F5 (fun _ _ h => h)⟩ ?_
  · rw [wrap_ok (by omega) (by omega)]; omega
  · have hx : (s.extract (64 * k) s.size).data.toList.take 64 = (s.data.toList.drop (64 * k)).take 64 := by
      rw [extract_list, List.take_take]
      congr 1
      omega
    rw [hx] at hP5
    have hput := flat_put hpre (i := k) (by omega) ((s.data.toList.drop (64 * k)).take 64)
    have hset : ((chunks s.data.toList m).take k ++ List.replicate (m - k) (List.replicate 64 0)).set k ((s.data.toList.drop (64 * k)).take 64) = (chunks s.data.toList m).take (k + 1) ++ List.replicate (m - (k + 1)) (List.replicate 64 0) := by
      have e : m - k = (m - (k + 1)) + 1 := by omega
      rw [List.set_append, if_neg (by rw [List.length_take]; omega), e, List.replicate_succ, List.length_take, show k - min k (chunks s.data.toList m).length = 0 by omega, List.set_cons_zero, List.take_add_one (l := chunks s.data.toList m), hch]
      simp only [Option.toList_some, List.append_assoc, List.singleton_append]
    rw [hset] at hput
    rw [← hput]
    simp only [Nat.zero_add] at hP5
    exact hP5
  · rw [wrap_ok (by omega) (by omega), Int.toNat_natCast]; omega
end Go.Proofs.Ytmklfedlifcoiaa
