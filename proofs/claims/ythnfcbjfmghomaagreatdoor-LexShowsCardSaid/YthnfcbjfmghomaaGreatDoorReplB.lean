/- The Replacer of a quoted text: replacing. No condition. -/
import Derived.Test.YthnfcbjfmghomaaGreatDoorReplA
import Derived.Test.YthnfcbjfmghomaaGreatDoorQuote
namespace Go.Lift
theorem join2_ok {c d : CT} {x : (c.T → d.T → G) → G} {k : c.T → d.T → G} {R : Ending → World → Prop} {w : World} (M : c.T → d.T → World → Prop) (hx : ∀ kj : c.T → d.T → G, (∀ y z w', M y z w' → kj y z R w') → x kj R w) (hk : ∀ y z w', M y z w' → k y z R w') : joinG [.one c, .one d] x k R w := hx k hk
theorem fill_row {A cs : List Value} {z : Value} {n : Nat} (_ : cs.length ≤ n) : (A ++ List.replicate n z).take A.length ++ (cs ++ (A ++ List.replicate n z).drop (A.length + cs.length)) = (A ++ cs) ++ List.replicate (n - cs.length) z := by
  rw [List.take_left, List.drop_append, List.drop_of_length_le (by omega), List.nil_append, Nat.add_sub_cancel_left, List.drop_replicate, List.append_assoc]
theorem fill_cell {A : List Value} {z v : Value} {n : Nat} (h : 1 ≤ n) : (A ++ List.replicate n z).set A.length v = (A ++ [v]) ++ List.replicate (n - 1) z := by
  obtain ⟨k, rfl⟩ : ∃ k, n = k + 1 := ⟨n - 1, by omega⟩
  rw [List.set_append, if_neg (by omega), Nat.sub_self, List.replicate_succ, List.set_cons_zero, List.append_assoc]
  rfl
end Go.Lift
namespace Go.Proofs.YthnfcbjfmghomaaGreatDoor
open Go.Lift Go.Lex
section
variable {w : World} {m base : Nat} {L : List Value}
theorem Tab.at (T : Tab base w m kset L) (c : UInt8) : (isKey c = true ∧ ∃ g cap, L[c.toNat]? = some (.slice (some ⟨g, 0, none⟩) 2 cap) ∧ ∀ j, j < 2 → w.cell? ⟨g, j, none⟩ = some (.int .u8 (((quoteB c).getD j 0).toNat : Int))) ∨ (isKey c = false ∧ L[c.toNat]? = some (.slice none 0 0)) := by
  cases h : isKey c with
  | true =>
    obtain ⟨g, cap, h1, _, h2⟩ := T.yes c (List.contains_iff_mem.1 h)
    exact .inl ⟨rfl, g, cap, h1, h2⟩
  | false => exact .inr ⟨rfl, T.no c fun hc => by rw [isKey, List.contains_iff_mem.2 hc] at h; cases h⟩
set_option maxHeartbeats 2000000 in
theorem rep_ok (T : Tab base w m kset L) (s : ByteArray) (hs : s.size ≤ 1000000) : Calls Tryz.prog 199 #[.pointer (some ⟨m, 0, none⟩), .string s] w fun e w' => e = .returned (.string (bs ((bl s).flatMap quoteB))) ∧ Fr noB w w' := by
  have hsl := bl_length s
  have hql := quote_len (bl s)
  have hcp : (bl s).countP isKey ≤ (bl s).length := List.countP_le_length
  apply c199
  unfold t199
  obtain ⟨l3, hL, hown⟩ := T.list
  obtain ⟨hln, g3, ha3, hcell⟩ : l3.n = 4 ∧ ∃ g, l3.a = some ⟨g, 0, none⟩ ∧ ∀ (j : Nat) c, kset[j]? = some c → w.cell? ⟨g, j, none⟩ = some (.string (bs [c])) := by
    rcases hown.2 with ⟨_, h0⟩ | ⟨g, cap, cur, h, _, _⟩
    · cases h0
    · simp only [Value.slice.injEq] at h
      refine ⟨h.2.1, g, h.1, fun j c hc => ?_⟩
      have := hown.cells (g := g) (by rw [h.1]; rfl) j (.string (bs [c])) (by rw [List.getElem?_map, hc]; rfl)
      rw [Addr.add_lit, Nat.zero_add] at this
      exact this
  refine nn_ok (T.blk.ldS (o := 256) hL ?_)
  refine join2_ok (c := .int .i64) (d := .bool) (fun (n : Int) (x : Bool) w' => n = ((((bl s).flatMap quoteB).length : Nat) : Int) ∧ x = (bl s).any isKey ∧ Fr noB w w') (fun k4 hk4 => ?_) ?_
  · refine ite_ok (fun _ => nn_ok (T.blk.ldS (o := 256) hL ?_)) fun _ => ?_
    · refine join2_ok (c := .int .i64) (d := .bool) (fun (n : Int) (x : Bool) w' => n = ((((bl s).flatMap quoteB).length : Nat) : Int) ∧ x = (bl s).any isKey ∧ Fr noB w w') (fun k7 hk7 => ?_) (fun n x w' h => hk4 _ _ _ h)
      refine loop_ok (vs := [.one (.int .i64), .one .bool, .one (.int .i64)]) (fun xs w' => ∃ k : Nat, k ≤ 4 ∧ (show Int from xs.1.1) = ((s.size + sumK (bl s) k : Nat) : Int) ∧ (show Bool from xs.2.1.1) = (kset.take k).any (fun c => decide ((bl s).count c ≠ 0)) ∧ (show Int from xs.2.2.1.1) = (k : Int) ∧ Fr noB w w')
        (fun xs => 10 - (show Int from xs.2.2.1.1).toNat) ?_ (xs := (((s.size : Int), ()), ((false, ()), (((0 : Int), ()), ())))) ⟨0, by omega, rfl, rfl, rfl, Fr.refl _ _⟩
      rintro rec ⟨⟨n, ⟨⟩⟩, ⟨⟨x, ⟨⟩⟩, ⟨⟨i, ⟨⟩⟩, ⟨⟩⟩⟩⟩ w1 ⟨k, hk, hn, hx, hi, F1⟩ hrec
      change Int at n
      change Bool at x
      change Int at i
      change n = _ at hn
      change x = _ at hx
      change i = _ at hi
      subst hn
      subst hx
      subst hi
      refine ite_ok (fun hlt => ?_) fun hge => hk7 _ _ _ ⟨?_, ?_, F1⟩
      · have hlt : (k : Int) < (l3.n : Int) := of_decide_eq_true hlt
        obtain ⟨c, hc⟩ : ∃ c, kset[k]? = some c := ⟨_, List.getElem?_eq_getElem (by show k < 4; omega)⟩
        have hkey : isKey c = true := List.contains_iff_mem.2 (List.mem_of_getElem? hc)
        have hsum : sumK (bl s) (k + 1) = sumK (bl s) k + (bl s).count c := by
          unfold sumK
          rw [List.take_add_one, hc]
          simp
        have hany : (kset.take (k + 1)).any (fun c => decide ((bl s).count c ≠ 0)) = ((kset.take k).any (fun c => decide ((bl s).count c ≠ 0)) || decide ((bl s).count c ≠ 0)) := by
          rw [List.take_add_one, hc]
          simp
        have hsumle := sumK_le (bl s) k
        have hcnt : (bl s).count c ≤ (bl s).length := List.count_le_length
        have ewk : IntKind.wrap .i64 ((k : Int) + 1) = ((k + 1 : Nat) : Int) := by rw [wrap_ok (by omega) (by omega)]; omega
        unfold joinG
        rw [ha3, hln]
        refine idxB_ok (i := k) (by omega) ?_
        rw [Nat.zero_add, Nat.mul_one]
        refine ld_ok (c := .str) (F1.cell (hcell k c hc) (fun h => h)) (callI_ok (n := (((bl s).count c : Nat) : Int)) (Y := fun w' => w' = w1) (Tryz.strings_Count_one s c w1) fun w2 hw => ?_)
        subst hw
        have T2 := T.fr F1
        refine ite_ok (fun h0 => drew_ok fun w3 F3 z3 => ?_) fun h0 => ?_
        · have h0 : ¬ (((bl s).count c : Nat) : Int) = 0 := by simpa using h0
          have T3 := T2.fr F3
          refine chr_ok (i := 0) (s := bs [c]) (by rw [bs_size]; simp) (nn_ok ?_)
          have e0 : (bl (bs [c]))[0]'(by rw [bl_length, bs_size]; simp) = c := by simp [bl_bs]
          rw [e0]
          rcases T3.at c with ⟨_, g, cap, hLc, _⟩ | ⟨hno, _⟩
          · refine idxB_ok (i := c.toNat) c.toNat_lt ?_
            show ldG .slice ⟨m, 0 + c.toNat * 1, none⟩ _ _ _
            rw [Nat.zero_add, Nat.mul_one]
            refine T3.blk.ldS hLc ?_
            have ew : IntKind.wrap .i64 (((s.size + sumK (bl s) k : Nat) : Int) + IntKind.wrap .i64 ((((bl s).count c : Nat) : Int) * IntKind.wrap .i64 (((2 : Nat) : Int) - 1))) = ((s.size + sumK (bl s) (k + 1) : Nat) : Int) := by
              rw [show IntKind.wrap .i64 (((2 : Nat) : Int) - 1) = 1 from rfl, Int.mul_one, wrap_ok (n := (((bl s).count c : Nat) : Int)) (by omega) (by omega), wrap_ok (by omega) (by omega), hsum]
              omega
            show uncV rec ((IntKind.wrap .i64 (((s.size + sumK (bl s) k : Nat) : Int) + IntKind.wrap .i64 ((((bl s).count c : Nat) : Int) * IntKind.wrap .i64 (((2 : Nat) : Int) - 1))), ()), ((true, ()), ((IntKind.wrap .i64 ((k : Int) + 1), ()), ()))) _ _
            rw [ew, ewk]
            refine hrec _ w3 ⟨k + 1, by omega, rfl, ?_, rfl, F1.tr F3⟩ ?_
            · show true = _
              rw [hany, decide_eq_true (p := (bl s).count c ≠ 0) (by omega), Bool.or_true]
            · show 10 - ((k + 1 : Nat) : Int).toNat < 10 - ((k : Nat) : Int).toNat
              simp only [Int.toNat_natCast]; omega
          · rw [hkey] at hno; cases hno
        · have h0 : (((bl s).count c : Nat) : Int) = 0 := by simpa using h0
          rw [ewk]
          refine hrec ((((s.size + sumK (bl s) k : Nat) : Int), ()), ((_, ()), ((((k + 1 : Nat) : Int), ()), ()))) w2 ⟨k + 1, by omega, ?_, ?_, rfl, F1⟩ ?_
          · rw [hsum]
            show ((s.size + sumK (bl s) k : Nat) : Int) = _
            omega
          · show (kset.take k).any (fun c => decide ((bl s).count c ≠ 0)) = _
            rw [hany, decide_eq_false (p := (bl s).count c ≠ 0) (by omega), Bool.or_false]
          · show 10 - ((k + 1 : Nat) : Int).toNat < 10 - ((k : Nat) : Int).toNat
            simp only [Int.toNat_natCast]; omega
      · have hge : ¬ (k : Int) < (l3.n : Int) := of_decide_eq_false hge
        have : k = 4 := by omega
        subst this
        rw [hql, hsl, sumK_all]
      · have hge : ¬ (k : Int) < (l3.n : Int) := of_decide_eq_false hge
        have : k = 4 := by omega
        subst this
        exact anyK_all _
    · refine join2_ok (c := .int .i64) (d := .bool) (fun (n : Int) (x : Bool) w' => n = ((((bl s).flatMap quoteB).length : Nat) : Int) ∧ x = (bl s).any isKey ∧ Fr noB w w') (fun k27 hk27 => ?_) (fun n x w' h => hk4 _ _ _ h)
      refine loop_ok (vs := [.one (.int .i64), .one .bool, .one (.int .i64)]) (fun xs w' => ∃ k : Nat, k ≤ s.size ∧ (show Int from xs.1.1) = ((s.size + ((bl s).take k).countP isKey : Nat) : Int) ∧ (show Bool from xs.2.1.1) = ((bl s).take k).any isKey ∧ (show Int from xs.2.2.1.1) = (k : Int) ∧ w' = w)
        (fun xs => s.size - (show Int from xs.2.2.1.1).toNat) ?_ (xs := (((s.size : Int), ()), ((false, ()), (((0 : Int), ()), ())))) ⟨0, by omega, rfl, rfl, rfl, rfl⟩
      rintro rec ⟨⟨n, ⟨⟩⟩, ⟨⟨x, ⟨⟩⟩, ⟨⟨i, ⟨⟩⟩, ⟨⟩⟩⟩⟩ w1 ⟨k, hk, hn, hx, hi, hw⟩ hrec
      change Int at n
      change Bool at x
      change Int at i
      change n = _ at hn
      change x = _ at hx
      change i = _ at hi
      subst hn
      subst hx
      subst hi
      subst hw
      refine ite_ok (fun hlt => ?_) fun hge => hk27 _ _ _ ⟨?_, ?_, Fr.refl _ _⟩
      · have hlt : (k : Int) < (s.size : Int) := of_decide_eq_true hlt
        have hc := bl_at (s := s) (i := k) (by omega)
        have ewk : IntKind.wrap .i64 ((k : Int) + 1) = ((k + 1 : Nat) : Int) := by rw [wrap_ok (by omega) (by omega)]; omega
        unfold joinG
        refine chr_ok (by omega) (nn_ok ?_)
        generalize (bl s)[k]'(by rw [hsl]; omega) = c at *
        have htk : (bl s).take (k + 1) = (bl s).take k ++ [c] := by rw [List.take_add_one, hc]; rfl
        have hcp2 : ((bl s).take k).countP isKey ≤ ((bl s).take k).length := List.countP_le_length
        rw [List.length_take] at hcp2
        refine idxB_ok (i := c.toNat) c.toNat_lt ?_
        show ldG .slice ⟨m, 0 + c.toNat * 1, none⟩ _ _ _
        rw [Nat.zero_add, Nat.mul_one]
        rcases T.at c with ⟨hkey, g, cap, hLc, _⟩ | ⟨hkey, hLc⟩
        · refine T.blk.ldS hLc (ite_yes rfl (nn_ok ?_))
          refine idxB_ok (i := c.toNat) c.toNat_lt ?_
          show ldG .slice ⟨m, 0 + c.toNat * 1, none⟩ _ _ _
          rw [Nat.zero_add, Nat.mul_one]
          refine T.blk.ldS hLc ?_
          have ew : IntKind.wrap .i64 (((s.size + ((bl s).take k).countP isKey : Nat) : Int) + IntKind.wrap .i64 (((2 : Nat) : Int) - 1)) = ((s.size + ((bl s).take (k + 1)).countP isKey : Nat) : Int) := by
            rw [show IntKind.wrap .i64 (((2 : Nat) : Int) - 1) = 1 from rfl, wrap_ok (by omega) (by omega), htk, List.countP_append]
            simp [hkey]
            omega
          show uncV rec ((IntKind.wrap .i64 (((s.size + ((bl s).take k).countP isKey : Nat) : Int) + IntKind.wrap .i64 (((2 : Nat) : Int) - 1)), ()), ((true, ()), ((IntKind.wrap .i64 ((k : Int) + 1), ()), ()))) _ _
          rw [ew, ewk]
          refine hrec _ w1 ⟨k + 1, by omega, rfl, ?_, rfl, rfl⟩ ?_
          · show true = _
            rw [htk, List.any_append]
            simp [hkey]
          · show s.size - ((k + 1 : Nat) : Int).toNat < s.size - ((k : Nat) : Int).toNat
            simp only [Int.toNat_natCast]; omega
        · refine T.blk.ldS hLc (ite_no rfl ?_)
          rw [ewk]
          refine hrec ((((s.size + ((bl s).take k).countP isKey : Nat) : Int), ()), ((((bl s).take k).any isKey, ()), ((((k + 1 : Nat) : Int), ()), ()))) w1 ⟨k + 1, by omega, ?_, ?_, rfl, rfl⟩ ?_
          · rw [htk, List.countP_append]
            show ((s.size + ((bl s).take k).countP isKey : Nat) : Int) = _
            simp [hkey]
          · rw [htk, List.any_append]
            show ((bl s).take k).any isKey = _
            simp [hkey]
          · show s.size - ((k + 1 : Nat) : Int).toNat < s.size - ((k : Nat) : Int).toNat
            simp only [Int.toNat_natCast]; omega
      · have hge : ¬ (k : Int) < (s.size : Int) := of_decide_eq_false hge
        rw [List.take_of_length_le (by omega), hql, hsl]
      · have hge : ¬ (k : Int) < (s.size : Int) := of_decide_eq_false hge
        rw [List.take_of_length_le (by omega)]
  rintro n x w1 ⟨rfl, rfl, F1⟩
  refine ite_ok (fun h => ⟨?_, F1⟩) fun h => ?_
  · have h : (bl s).any isKey = false := by rwa [Bool.not_eq_true'] at h
    rw [quote_none h, bs_bl]
  have T1 := T.fr F1
  obtain ⟨ti, z, hi, hz0, h1, h2, h3⟩ := rByte
  refine make_ok uBytes hi hz0 (by omega) (by omega) (by rw [h2]; omega) (by omega) fun w2 g hg hs2 B2 F2 => ?_
  rw [h3, h1, show (#[Value.int .u8 0] : Array Value) = Array.replicate 1 (.int .u8 0) from rfl, made_rep _ _ _ (by omega), Nat.mul_one, Int.toNat_natCast] at B2
  rw [Int.toNat_natCast]
  generalize hN : ((bl s).flatMap quoteB).length = N at *
  have hout : ∀ k, (((bl s).take k).flatMap quoteB).length ≤ N := fun k => by
    rw [← hN]
    conv => rhs; rw [← List.take_append_drop k (bl s), List.flatMap_append, List.length_append]
    omega
  have hgm : g ≠ m := by have := T1.blk.lt; omega
  refine join0_ok (fun w' => Blk w' g 5 (byteCells ((bl s).flatMap quoteB)) ∧ Fr noB w w') (fun kend hkend => ?_) ?_
  · refine loop_ok (vs := [.one (.int .i64), .one (.int .i64)]) (fun xs w' => ∃ k : Nat, k ≤ s.size ∧ (show Int from xs.1.1) = (((((bl s).take k).flatMap quoteB).length : Nat) : Int) ∧ (show Int from xs.2.1.1) = (k : Int) ∧
        Blk w' g 5 (byteCells (((bl s).take k).flatMap quoteB) ++ List.replicate (N - (((bl s).take k).flatMap quoteB).length) (.int .u8 0)) ∧ Fr (oneB g) w2 w')
      (fun xs => s.size - (show Int from xs.2.1.1).toNat) ?_ (xs := (((0 : Int), ()), (((0 : Int), ()), ()))) ⟨0, by omega, rfl, rfl, B2, Fr.refl _ _⟩
    rintro rec ⟨⟨o, ⟨⟩⟩, ⟨⟨i, ⟨⟩⟩, ⟨⟩⟩⟩ w3 ⟨k, hk, ho, hi, B3, F3⟩ hrec
    change Int at o
    change Int at i
    change o = _ at ho
    change i = _ at hi
    subst ho
    subst hi
    have F13 : Fr noB w1 w3 := F2.then F3 fun y hy h => by unfold oneB at h; omega
    refine ite_ok (fun hlt => ?_) fun hge => hkend _ ⟨?_, F1.tr F13⟩
    · have hlt : (k : Int) < (s.size : Int) := of_decide_eq_true hlt
      have hc := bl_at (s := s) (i := k) (by omega)
      have ewk : IntKind.wrap .i64 ((k : Int) + 1) = ((k + 1 : Nat) : Int) := by rw [wrap_ok (by omega) (by omega)]; omega
      have T3 := T1.fr F13
      unfold joinG
      refine chr_ok (by omega) (nn_ok ?_)
      generalize (bl s)[k]'(by rw [hsl]; omega) = c at *
      have htk : (bl s).take (k + 1) = (bl s).take k ++ [c] := by rw [List.take_add_one, hc]; rfl
      have hfm : ((bl s).take (k + 1)).flatMap quoteB = ((bl s).take k).flatMap quoteB ++ quoteB c := by rw [htk, List.flatMap_append]; simp
      have hle := hout (k + 1)
      rw [hfm, List.length_append] at hle
      have hbo : (byteCells (((bl s).take k).flatMap quoteB)).length = (((bl s).take k).flatMap quoteB).length := List.length_map _
      have next : ∀ {w' : World}, Blk w' g 5 (byteCells (((bl s).take (k + 1)).flatMap quoteB) ++ List.replicate (N - (((bl s).take (k + 1)).flatMap quoteB).length) (.int .u8 0)) → Fr (oneB g) w2 w' → uncV rec (((((((bl s).take (k + 1)).flatMap quoteB).length : Nat) : Int), ()), ((((k + 1 : Nat) : Int), ()), ())) _ w' := fun B F =>
        hrec _ _ ⟨k + 1, by omega, rfl, rfl, B, F⟩ (by show s.size - ((k + 1 : Nat) : Int).toNat < s.size - ((k : Nat) : Int).toNat; simp only [Int.toNat_natCast]; omega)
      rw [hfm] at next
      generalize ((bl s).take k).flatMap quoteB = O at *
      refine idxB_ok (i := c.toNat) c.toNat_lt ?_
      show ldG .slice ⟨m, 0 + c.toNat * 1, none⟩ _ _ _
      rw [Nat.zero_add, Nat.mul_one]
      rcases T3.at c with ⟨hkey, g', cap, hLc, hcells⟩ | ⟨hkey, hLc⟩
      · have hq2 := quoteB_key hkey
        refine T3.blk.ldS hLc (ite_yes rfl (drew_ok fun w4 F4 z4 => assume_ok (by simp) ?_))
        refine reslice_ok (p := some ⟨g, 0, none⟩) (c := N) (l := ((O.length : Nat) : Int)) (h' := ((N : Nat) : Int)) (m := ((N : Nat) : Int)) (by omega) (by omega) (by omega) (by omega) (nn_ok ?_)
        have T4 := T3.fr F4
        have B4 := B3.fr F4 (fun h => h)
        refine idxB_ok (i := c.toNat) c.toNat_lt ?_
        show ldG .slice ⟨m, 0 + c.toNat * 1, none⟩ _ _ _
        rw [Nat.zero_add, Nat.mul_one]
        refine T4.blk.ldS hLc ?_
        have ep : (if ((N : Nat) : Int).toNat = ((O.length : Nat) : Int).toNat then some (⟨g, 0, none⟩ : Addr) else (some (⟨g, 0, none⟩ : Addr)).map (·.add (((O.length : Nat) : Int).toNat * 1))) = some ⟨g, O.length, none⟩ := by
          rw [Int.toNat_natCast, Int.toNat_natCast, if_neg (by omega), Nat.mul_one, Option.map_some, Addr.add_lit, Nat.zero_add]
        rw [ep, Int.toNat_natCast, Int.toNat_natCast]
        have hbq : (byteCells (quoteB c)).length = 2 := by rw [byteCells, List.length_map, hq2]
        refine copy_ok (sn := 2) (dn := N - O.length) (cs := byteCells (quoteB c)) uBytes (by kernel_rfl) B4 (by rw [hbq]; omega) (fun j v hj => ?_) (by rw [hbq, List.length_append, hbo, List.length_replicate]; omega) (fun v hv => by
          simp only [byteCells, List.mem_map] at hv
          obtain ⟨y, _, rfl⟩ := hv
          rfl) fun w5 B5 F5 z5 => ?_
        · have hj2 : j < 2 := by have := (List.getElem?_eq_some_iff.1 hj).1; rw [hbq] at this; exact this
          show w4.cell? (Addr.add ⟨g', 0, none⟩ j) = some v
          rw [Addr.add_lit, Nat.zero_add]
          rw [byteCells, List.getElem?_map, Option.map_eq_some_iff] at hj
          obtain ⟨y, hy, rfl⟩ := hj
          have := F4.cell (hcells j hj2) (fun h => h)
          rw [List.getD_eq_getElem?_getD, hy] at this
          exact this
        · rw [hbq] at B5 ⊢
          rw [← hbo, ← hbq, fill_row (by omega)] at B5
          have ew : IntKind.wrap .i64 (((O.length : Nat) : Int) + ((2 : Nat) : Int)) = (((O ++ quoteB c).length : Nat) : Int) := by rw [wrap_ok (by omega) (by omega), List.length_append, hq2]; omega
          rw [ewk]
          show uncV rec ((IntKind.wrap .i64 (((O.length : Nat) : Int) + ((2 : Nat) : Int)), ()), ((((k + 1 : Nat) : Int), ()), ())) _ _
          rw [ew]
          refine next ?_ ((F3.then F4 fun _ _ h => h.elim).sq F5)
          have e1 : byteCells (O ++ quoteB c) = byteCells O ++ byteCells (quoteB c) := List.map_append
          rw [e1, List.length_append, hq2]
          rw [hbq, Nat.sub_sub, hbo] at B5
          exact B5
      · have hq1 := quoteB_plain hkey
        rw [hq1] at hle next
        simp only [List.length_singleton] at hle
        refine T3.blk.ldS hLc (ite_no rfl ?_)
        refine idxB_ok (n := N) (i := O.length) (by omega) ?_
        rw [Nat.zero_add, Nat.mul_one]
        refine B3.st rfl (by rw [List.length_append, hbo, List.length_replicate]; omega) fun w4 B4 F4 => ?_
        rw [← hbo, fill_cell (by omega)] at B4
        have ew : IntKind.wrap .i64 (((O.length : Nat) : Int) + 1) = (((O ++ [c]).length : Nat) : Int) := by rw [wrap_ok (by omega) (by omega), List.length_append]; simp
        rw [ewk, ew]
        refine next ?_ (F3.sq F4)
        have e1 : byteCells (O ++ [c]) = byteCells O ++ [.int .u8 ((c.toNat : Nat) : Int)] := List.map_append
        rw [e1, List.length_append, List.length_singleton]
        rw [hbo, Nat.sub_sub] at B4
        exact B4
    · have hge : ¬ (k : Int) < (s.size : Int) := of_decide_eq_false hge
      rw [List.take_of_length_le (by omega), hN, Nat.sub_self, List.replicate_zero, List.append_nil] at B3
      exact B3
  · rintro w3 ⟨B3, F3⟩
    have o3 : w3.ownsRow 0 5 1 (.slice (some ⟨g, 0, none⟩) N N) N (byteCells ((bl s).flatMap quoteB)) := ⟨by simp [byteCells, hN], .inr ⟨g, N, _, rfl, Nat.zero_le _, B3, Nat.le_refl _, by unfold maxLen; omega, by simp [byteCells, hN], by rw [Nat.mul_one, List.take_of_length_le (by simp [byteCells, hN])]⟩⟩
    exact back_ok (l := ⟨some ⟨g, 0, none⟩, N, N⟩) hN.symm o3 ⟨rfl, F3⟩
end
end Go.Proofs.YthnfcbjfmghomaaGreatDoor
