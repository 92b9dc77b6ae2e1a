/- The document's disk, said of the same plain model: Read, Image, New, Load. -/
import Derived.Test.YtmklfedlifcoiaaRefB
namespace Go.Proofs.Ytmklfedlifcoiaa
open Go.Lift

/-- what a sector reads, over the cache -/
def seen (pl : List (List UInt8)) (c : List (Nat × List UInt8)) (i : Nat) : List UInt8 := match lastAt c i with
  | some s => s
  | none => pl.getD i []
theorem lastAt_app (c : List (Nat × List UInt8)) (x : Nat × List UInt8) (i : Int) : lastAt (c ++ [x]) i = if (x.1 : Int) = i then some x.2 else lastAt c i := by
  unfold lastAt
  rw [List.reverse_append, List.reverse_singleton, List.singleton_append, List.find?_cons]
  by_cases h : (x.1 : Int) = i
  · simp [h]
  · have hb : ((x.1 : Int) == i) = false := by simpa using h
    simp [h, hb]
theorem seen_app (pl : List (List UInt8)) (c : List (Nat × List UInt8)) (x : Nat × List UInt8) (i : Nat) : seen pl (c ++ [x]) i = if x.1 = i then x.2 else seen pl c i := by
  unfold seen
  rw [lastAt_app]
  by_cases h : x.1 = i
  · simp [h]
  · have h' : ¬ (x.1 : Int) = (i : Int) := by omega
    simp [h, h']
theorem flushL_app (c : List (Nat × List UInt8)) (x : Nat × List UInt8) (pl : List (List UInt8)) : flushL (c ++ [x]) pl = (flushL c pl).set x.1 x.2 := by
  unfold flushL
  rw [List.foldl_append]
  rfl
theorem seen_flush (pl : List (List UInt8)) (c : List (Nat × List UInt8)) {i : Nat} (hi : i < pl.length) : ∀ k, k ≤ c.length → (flushL (c.take k) pl)[i]? = some (seen pl (c.take k) i)
  | 0, _ => by
    simp [flushL, seen, lastAt, List.getElem?_eq_getElem hi]
  | k + 1, hk => by
    have ih := seen_flush pl c hi k (by omega)
    have e : c.take (k + 1) = c.take k ++ [c[k]] := by rw [List.take_add_one, List.getElem?_eq_getElem (by omega)]; rfl
    rw [e, flushL_app, seen_app, List.getElem?_set]
    by_cases h : (c[k]).1 = i
    · rw [if_pos h, if_pos h, if_pos (by rw [flushL_length]; omega)]
    · rw [if_neg h, if_neg h, ih]

section
variable {w0 w : World} {q : Nat} {d : DM} {B : Nat → Prop}
set_option maxHeartbeats 1000000 in
/-- the scan over the cache -/
theorem scan_ok {ps cs ks : Sl} {t c : Int} (D : RDisk w0 w q d ps cs ks t c) {i : Nat} {R : Ending → World → Prop} {K : ByteArray → G} (hK : K (bs (seen d.plat d.cache i)) R w) :
    joinG [(VT.one CT.str)]
      (fun k12 => loopG [(VT.one CT.str), (VT.one (CT.int IntKind.i64))]
        (fun k13 => fun (s14 : ByteArray) => fun (n15 : Int) => nnG (some ⟨q, 0, none⟩)
          (fun (a16 : Addr) => ldG CT.slice (Addr.add a16 1)
            (fun (l17 : Sl) => iteG (Decidable.decide (n15 < (↑(Sl.n l17) : Int)))
              (joinG [(VT.one CT.str)]
                (fun k18 => nnG (some ⟨q, 0, none⟩)
                  (fun (a19 : Addr) => ldG CT.slice (Addr.add a19 1)
                    (fun (l20 : Sl) => idxG (Sl.a l20) (Sl.n l20) n15 2
                      (fun (a21 : Addr) => ldG (CT.int IntKind.i64) (Addr.add a21 0)
                        (fun (n22 : Int) => joinG [(VT.one CT.str)]
                          (fun k23 => iteG (n22 == (i : Int))
                            (nnG (some ⟨q, 0, none⟩)
                              (fun (a24 : Addr) => ldG CT.slice (Addr.add a24 1)
                                (fun (l25 : Sl) => idxG (Sl.a l25) (Sl.n l25) n15 2
                                  (fun (a26 : Addr) => ldG CT.str (Addr.add a26 1)
                                    (fun (s27 : ByteArray) => k23 s27)))))
                            (k23 s14))
                          (fun (s28 : ByteArray) => k18 s28))))))
                (fun (s29 : ByteArray) => k13 s29 (IntKind.wrap IntKind.i64 (n15 + (1 : Int)))))
              (k12 s14)))) (bs (seen d.plat [] i)) (0 : Int)) K R w := by
  have hcn := own_n D.cache
  have hcl : d.cache.length ≤ 9223372036854775807 := by
    rcases D.cache.2 with ⟨_, h⟩ | ⟨_, _, _, _, _, _, h1, h2, _⟩
    · omega
    · unfold maxLen at h2; omega
  refine join1_ok (c := .str) (fun (s : ByteArray) w' => s = bs (seen d.plat d.cache i) ∧ w' = w) (fun k12 hk12 => ?_) ?_
  rotate_left
  · rintro s w' ⟨rfl, rfl⟩
    exact hK
  refine loop_ok (vs := [.one .str, .one (.int .i64)])
    (fun xs w' => ∃ k : Nat, (show Int from xs.2.1.1) = (k : Int) ∧ k ≤ d.cache.length ∧ (show ByteArray from xs.1.1) = bs (seen d.plat (d.cache.take k) i) ∧ w' = w)
    (fun xs => d.cache.length - (show Int from xs.2.1.1).toNat) ?_ (xs := ((_, ()), ((_, ()), ()))) ⟨0, rfl, Nat.zero_le _, rfl, rfl⟩
  rintro rec ⟨⟨s, ⟨⟩⟩, ⟨⟨j, ⟨⟩⟩, ⟨⟩⟩⟩ w1 ⟨k, hj, hk, hs, hw⟩ hrec
  change Int at j
  change ByteArray at s
  change j = (k : Int) at hj
  change s = bs _ at hs
  subst hj hs hw
  refine nn_ok (D.blk.ldS (o := 1) rfl (ite_ok (fun hlt => ?_) fun hge => ?_))
  rotate_left
  · have hge : k = d.cache.length := by simp only [decide_eq_false_iff_not] at hge; omega
    subst hge
    rw [List.take_length]
    exact hk12 _ _ ⟨rfl, rfl⟩
  have hlt : k < d.cache.length := by simp only [decide_eq_true_eq] at hlt; omega
  obtain ⟨x, hx⟩ : ∃ x, d.cache[k]? = some x := ⟨_, List.getElem?_eq_getElem hlt⟩
  obtain ⟨g, cur, hg, _, BG, hcur, _⟩ := own_get D.cache (by omega)
  have hrow : ∀ j, j < 2 → cur[k * 2 + j]? = (wr x)[j]? := fun j hj => by
    have h1 := flat_at wr 2 (fun y _ => wr_len y) hx j hj
    have h2 : j < (wr x).length := by rw [wr_len]; exact hj
    rw [List.getElem?_eq_getElem h2] at h1 ⊢
    exact hcur _ _ h1
  have e : d.cache.take (k + 1) = d.cache.take k ++ [x] := by rw [List.take_add_one, hx]; rfl
  have hsn := seen_app d.plat (d.cache.take k) x i
  rw [← e] at hsn
  refine join1_ok (c := .str) (fun (s : ByteArray) w' => s = bs (seen d.plat (d.cache.take (k + 1)) i) ∧ w' = w1) (fun k18 hk18 => ?_) ?_
  rotate_left
  · rintro s w' ⟨rfl, rfl⟩
    refine hrec ((_, ()), ((_, ()), ())) w' ⟨k + 1, ?_, hlt, rfl, rfl⟩ ?_
    · show IntKind.wrap .i64 ((k : Int) + 1) = _
      rw [wrap_ok (by omega) (by omega)]; omega
    · show d.cache.length - (IntKind.wrap .i64 ((k : Int) + 1)).toNat < d.cache.length - (k : Int).toNat
      rw [wrap_ok (by omega) (by omega), Int.toNat_natCast]; omega
  refine nn_ok (D.blk.ldS (o := 1) rfl ?_)
  show idxG cs.a cs.n _ _ _ _ _
  rw [hg]
  refine idxB_ok (by omega) (BG.ld (o := 0 + k * 2 + 0) (by rw [Nat.zero_add]; exact (hrow 0 (by omega)).trans rfl) ?_)
  refine join1_ok (c := .str) (fun (s : ByteArray) w' => s = bs (seen d.plat (d.cache.take (k + 1)) i) ∧ w' = w1) (fun k23 hk23 => ?_) (fun s w' h => hk18 s w' h)
  refine ite_ok (fun h => ?_) fun h => ?_
  · have h : x.1 = i := by have : (x.1 : Int) = (i : Int) := by simpa using h
                           omega
    rw [if_pos h] at hsn
    refine nn_ok (D.blk.ldS (o := 1) rfl ?_)
    show idxG cs.a cs.n _ _ _ _ _
    rw [hg]
    refine idxB_ok (by omega) (BG.ld (o := 0 + k * 2 + 1) (by rw [Nat.zero_add]; exact (hrow 1 (by omega)).trans rfl) (hk23 _ _ ⟨by rw [hsn], rfl⟩))
  · have h : ¬ x.1 = i := by have : ¬ (x.1 : Int) = (i : Int) := by simpa using h
                             omega
    rw [if_neg h] at hsn
    exact hk23 _ _ ⟨by rw [hsn], rfl⟩

theorem rread_ok (D0 : RAt w0 w q d B) (i : Int) : Calls Try.prog 36 #[.pointer (some ⟨q, 0, none⟩), .int .i64 i] w fun e w' =>
    e = .returned (.tuple #[.string ⟨(d.read i).1.toArray⟩, .int .i64 (d.read i).2]) ∧ Fr noB w w' := by
  obtain ⟨ps, cs, ks, t, c, D, hB⟩ := D0
  have hpn := own_n D.plat
  apply c36
  unfold t36
  refine nn_ok (D.blk.ld (o := 6) rfl (ite_ok (fun h => ?_) fun h => ?_))
  · have hr : d.ready i = 190 := by simp [DM.ready, h]
    have hw : d.read i = ([], 190) := by simp [DM.read, hr]
    rw [hw]
    exact ⟨rfl, Fr.refl _ _⟩
  have hr : d.ready i = if i < 0 ∨ (d.plat.length : Int) ≤ i then 191 else 0 := by simp [DM.ready, h]
  refine join1_ok (c := .bool) (fun (b : Bool) w' => b = decide (i < 0 ∨ (d.plat.length : Int) ≤ i) ∧ w' = w) (fun kj hkj => ?_) ?_
  · refine ite_ok (fun h => hkj _ _ ⟨?_, rfl⟩) fun h => nn_ok (D.blk.ldS (o := 0) rfl (hkj _ _ ⟨?_, rfl⟩))
    · have h : i < 0 := by simpa using h
      rw [decide_eq_true (.inl h)]
    · have h : ¬ i < 0 := by simpa using h
      show decide ((ps.n : Int) ≤ i) = _
      rw [hpn]
      simp [h]
  rintro b w' ⟨hb, hw⟩
  replace hw := hw.symm
  subst hw
  refine ite_ok (fun h => ?_) fun h => ?_
  · rw [h] at hb
    rw [if_pos (of_decide_eq_true hb.symm)] at hr
    have hw : d.read i = ([], 191) := by simp [DM.read, hr]
    rw [hw]
    exact ⟨rfl, Fr.refl _ _⟩
  rw [h] at hb
  have hin := of_decide_eq_false hb.symm
  rw [if_neg hin] at hr
  obtain ⟨n, rfl⟩ := Int.eq_ofNat_of_zero_le (show 0 ≤ i by omega)
  have hn : n < d.plat.length := by omega
  obtain ⟨gp, curp, hgp, _, BP, hcurp, _⟩ := own_get D.plat D.pos
  refine nn_ok (D.blk.ldS (o := 0) rfl ?_)
  show idxG ps.a ps.n _ _ _ _ _
  rw [hgp]
  have e0 : seen d.plat [] n = d.plat[n] := by simp [seen, lastAt, List.getElem?_eq_getElem hn]
  refine idxB_ok (by omega) (BP.ld (o := 0 + n * 1) (x := bs (seen d.plat [] n)) (hcurp _ _ (by simp [hn, sv, CT.val, e0])) ?_)
  refine scan_ok D (i := n) ?_
  have hrd : d.read n = (seen d.plat d.cache n, 0) := by
    unfold DM.read
    rw [if_neg (by simp [hr])]
    rfl
  rw [hrd]
  exact ⟨rfl, Fr.refl _ _⟩

theorem rows_take {pl : List (List UInt8)} {k : Nat} {r : List UInt8} (h : pl[k]? = some r) : (pl.take (k + 1)).flatten = (pl.take k).flatten ++ r := by
  rw [List.take_add_one, h]
  simp
theorem strCells_bs (l : List UInt8) : Go.Lib.strCells (bs l) = bv l := by
  unfold Go.Lib.strCells bv
  rw [bs_list]
  rfl
theorem row5' : ∃ i, Try.prog.info? 5 = some i ∧ i.zero = some (.int .u8 0) ∧ i.size = 1 ∧ i.bytes = 1 := by
  have h : (Try.prog.info? 5).map (fun i => (i.size, i.bytes, i.zero)) = some (1, 1, some (.int .u8 0)) := by kernel_rfl
  cases hi : Try.prog.info? 5 with
  | none => rw [hi] at h; cases h
  | some i =>
    rw [hi] at h
    simp only [Option.map_some, Option.some.injEq, Prod.mk.injEq] at h
    exact ⟨i, rfl, h.2.2, h.1, h.2.1⟩
theorem flat_le : ∀ {pl : List (List UInt8)} (_ : ∀ x ∈ pl, x.length = 64), pl.flatten.length = 64 * pl.length
  | [], _ => rfl
  | x :: pl, h => by
    rw [List.flatten_cons, List.length_append, flat_le (fun y hy => h y (by simp [hy])), h x (by simp), List.length_cons]
    omega

theorem rimage_ok (D0 : RAt w0 w q d B) : Calls Try.prog 26 #[.pointer (some ⟨q, 0, none⟩)] w fun e w' =>
    e = .returned (.string d.image) ∧ Fr noB w w' := by
  obtain ⟨ps, cs, ks, t, c, D, hB⟩ := D0
  have hpn := own_n D.plat
  have hbig := D.big
  have hl64 : ∀ x ∈ flushL d.cache d.plat, x.length = 64 := flushL_len _ _ (fun x hx => (D.cwf x hx).2) D.len
  have hll : (flushL d.cache d.plat).length = d.plat.length := flushL_length _ _
  apply c26
  unfold t26
  refine join1_ok (c := .slice) (fun (s : Sl) w' => w'.ownsRow w.heap.size 5 1 (.slice s.a s.n s.c) (flushL d.cache d.plat).flatten.length (bv (flushL d.cache d.plat).flatten) ∧ Fr noB w w') (fun k1 hk1 => ?_) ?_
  rotate_left
  · rintro s w' ⟨hown, F⟩
    exact back_ok rfl (own_base hown) ⟨rfl, F⟩
  refine loop_ok (vs := [.one .slice, .one (.int .i64)])
    (fun xs w' => ∃ k : Nat, (show Int from xs.2.1.1) = (k : Int) ∧ k ≤ d.plat.length ∧
      w'.ownsRow w.heap.size 5 1 (.slice (show Sl from xs.1.1).a (show Sl from xs.1.1).n (show Sl from xs.1.1).c) ((flushL d.cache d.plat).take k).flatten.length (bv ((flushL d.cache d.plat).take k).flatten) ∧ Fr noB w w')
    (fun xs => d.plat.length - (show Int from xs.2.1.1).toNat) ?_ (xs := ((_, ()), ((_, ()), ()))) ⟨0, rfl, Nat.zero_le _, World.ownsRow_nil _ _ _ _, Fr.refl _ _⟩
  rintro rec ⟨⟨s, ⟨⟩⟩, ⟨⟨j, ⟨⟩⟩, ⟨⟩⟩⟩ w1 ⟨k, hj, hk, hown, F1⟩ hrec
  change Int at j
  change Sl at s
  change j = (k : Int) at hj
  change w1.ownsRow w.heap.size 5 1 (.slice s.a s.n s.c) _ _ at hown
  subst hj
  have D1 := D.fr F1 (fun _ _ h => h)
  refine nn_ok (D1.blk.ldS (o := 0) rfl (ite_ok (fun hlt => ?_) fun hge => ?_))
  rotate_left
  · have hge : k = d.plat.length := by simp only [decide_eq_false_iff_not] at hge; omega
    subst hge
    rw [← hll, List.take_length] at hown
    exact hk1 _ _ ⟨hown, F1⟩
  have hlt : k < d.plat.length := by simp only [decide_eq_true_eq] at hlt; omega
  have hrow := seen_flush d.plat d.cache hlt d.cache.length (Nat.le_refl _)
  rw [List.take_length] at hrow
  have hsl : (seen d.plat d.cache k).length = 64 := hl64 _ (List.mem_of_getElem? hrow)
  have htk := rows_take hrow
  have htl : ((flushL d.cache d.plat).take k).flatten.length = 64 * k := by
    rw [flat_le (fun x hx => hl64 x (List.mem_of_mem_take hx)), List.length_take]
    congr 1
    omega
  refine join1_ok (c := .slice) (fun (s : Sl) w' => w'.ownsRow w.heap.size 5 1 (.slice s.a s.n s.c) ((flushL d.cache d.plat).take (k + 1)).flatten.length (bv ((flushL d.cache d.plat).take (k + 1)).flatten) ∧ Fr noB w w') (fun k7 hk7 => ?_) ?_
  rotate_left
  · rintro s' w' ⟨h1, h2⟩
    refine hrec ((_, ()), ((_, ()), ())) w' ⟨k + 1, ?_, hlt, h1, h2⟩ ?_
    · show IntKind.wrap .i64 ((k : Int) + 1) = _
      rw [wrap_ok (by omega) (by omega)]; omega
    · show d.plat.length - (IntKind.wrap .i64 ((k : Int) + 1)).toNat < d.plat.length - (k : Int).toNat
      rw [wrap_ok (by omega) (by omega), Int.toNat_natCast]; omega
  obtain ⟨gp, curp, hgp, _, BP, hcurp, _⟩ := own_get D1.plat D.pos
  refine nn_ok (D1.blk.ldS (o := 0) rfl ?_)
  show idxG ps.a ps.n _ _ _ _ _
  rw [hgp]
  have e0 : seen d.plat [] k = d.plat[k] := by simp [seen, lastAt, List.getElem?_eq_getElem hlt]
  refine idxB_ok (by omega) (BP.ld (o := 0 + k * 1) (x := bs (seen d.plat [] k)) (hcurp _ _ (by simp [hlt, sv, CT.val, e0])) ?_)
  refine scan_ok D1 (i := k) ?_
  obtain ⟨i0, hi, hz, hz1, hz2⟩ := row5'
  have hbl : (bs (seen d.plat d.cache k)).size = 64 := by rw [bs_size, hsl]
  refine appendSB_ok u75 u9 hi hz hz1 hz2 (s := ⟨s.a, s.n, s.c⟩) hown (bs (seen d.plat d.cache k)) (by unfold maxLen; omega) (by omega) F1.size fun s' w2 hown2 F2 => hk7 _ _ ⟨?_, F1.behind F2⟩
  rw [htk, List.length_append, ← bs_size (seen d.plat d.cache k)]
  rw [strCells_bs] at hown2
  unfold bv at hown2 ⊢
  rw [List.map_append]
  exact hown2
end
end Go.Proofs.Ytmklfedlifcoiaa
