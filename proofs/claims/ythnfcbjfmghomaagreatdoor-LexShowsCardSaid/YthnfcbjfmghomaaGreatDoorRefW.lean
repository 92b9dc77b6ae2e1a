/- The document's versions: the walks, but for Parse. No condition. -/
import Derived.Test.YthnfcbjfmghomaaGreatDoorRefU
import Derived.Test.YthnfcbjfmghomaaGreatDoorRefV
import Derived.Test.YthnfcbjfmghomaaGreatDoorReplA
namespace Go.Lift
section
variable {w : World}
/-- a cell of a row of one's own, written -/
theorem own_set {R : Ending → World → Prop} {base : Nat} {e : TypeId} {n i : Nat} {l : Sl} {xs : List Value} {v : Value} (h : w.ownsRow base e 1 (.slice l.a l.n l.c) n xs) (hi : i < n) (hv : v.oneCell' = true) :
    ∃ g, l.a = some ⟨g, 0, none⟩ ∧ l.n = n ∧ base ≤ g ∧ g < w.heap.size ∧ (∀ u, xs[i]? = some u → w.cell? ⟨g, i, none⟩ = some u) ∧ ∀ (w1 : World) (k : G), Fr noB w w1 → (∀ w', w'.ownsRow base e 1 (.slice l.a l.n l.c) n (xs.set i v) → Fr (oneB g) w1 w' → k R w') → stG ⟨g, i, none⟩ v k R w1 := by
  rcases h.2 with ⟨_, h0⟩ | ⟨g, cap, cur, hv1, h0, hg, hnc, hcap, hsz, htake⟩
  · omega
  · have hlen := h.1
    rw [Nat.mul_one] at htake hsz hlen
    have hv2 := hv1
    simp only [Value.slice.injEq] at hv1
    refine ⟨g, hv1.1, hv1.2.1, h0, (Array.getElem?_eq_some_iff.1 hg).1, fun u hu => ?_, fun w1 k F1 hk => ?_⟩
    · have B : Blk w g e cur.toList := hg
      refine B.cell ?_
      rw [← htake, List.getElem?_take_of_lt hi] at hu
      exact hu
    · have B : Blk w g e cur.toList := hg
      refine (B.fr F1 (fun h => h)).st (o := i) hv (by simp; omega) fun w' B' F' => hk w' ⟨by rw [List.length_set, hlen, Nat.mul_one], .inr ⟨g, cap, (cur.toList.set i v).toArray, hv2, h0, B', hnc, hcap, by simpa using hsz, ?_⟩⟩ F'
      rw [Nat.mul_one, List.take_set, htake]
theorem RdS_own {base : Nat} {e : TypeId} {l : Sl} {xs : List ByteArray} (h : w.ownsRow base e 1 (.slice l.a l.n l.c) xs.length (xs.map Value.string)) : RdS w l xs := by
  rcases h.2 with ⟨hv, h0⟩ | ⟨g, cap, cur, hv, _⟩
  · have : xs = [] := List.eq_nil_of_length_eq_zero h0
    subst this
    simp only [Value.slice.injEq] at hv
    exact ⟨hv.2.1, fun k x hx => by simp at hx⟩
  · have hc := h.cells (g := g) (by rw [hv]; rfl)
    simp only [Value.slice.injEq] at hv
    exact ⟨hv.2.1, fun k x hx => ⟨_, hv.1, by
      rw [Nat.mul_one]
      exact hc k _ (by rw [List.getElem?_map, hx]; rfl)⟩⟩
end
end Go.Lift
namespace Go.Lex
/-- a part begun, and the parts of what follows -/
def glue (cur : B) : List B → List B
  | [] => [cur]
  | h :: t => (cur ++ h) :: t
theorem glue_nil (l : List B) (h : l ≠ []) : glue [] l = l := by
  cases l with
  | nil => exact absurd rfl h
  | cons x r => rfl
theorem glue_dot (cur r : B) : glue cur (parts (46 :: r)) = [cur] ++ glue [] (parts r) := by
  rw [parts_dot, glue_nil _ (parts_ne r)]
  simp [glue]
theorem glue_step {c : UInt8} (h : c ≠ 46) (cur r : B) : glue cur (parts (c :: r)) = glue (cur ++ [c]) (parts r) := by
  cases hp : parts r with
  | nil => exact absurd hp (parts_ne r)
  | cons p ps =>
    rw [parts_step h hp]
    simp [glue]
def ten : B := [48, 49, 50, 51, 52, 53, 54, 55, 56, 57]
theorem ten_at : ∀ d, d < 10 → (ten.drop d).take 1 = [UInt8.ofNat (48 + d)] := by decide
end Go.Lex
namespace Go.Proofs.YthnfcbjfmghomaaGreatDoor
open Go.Lift Go.Lex
section
variable {w : World}
theorem rdigits_ok (s : ByteArray) (hs : s.size < 4611686018427387904) : AnsB 131 #[.string s] w (digits (bl s)) := by
  have hsl := bl_length s
  apply c131
  unfold t131
  refine join0_ok (fun w' => (bl s).all digit = true ∧ Fr noB w w') (fun kend hkend => ?_) (fun w' ⟨h, F⟩ => ⟨?_, F⟩)
  rotate_left
  · rw [eq_bl, bl_empty]
    unfold digits
    rw [h]
    cases bl s <;> rfl
  refine count_ok s.size hs (fun k w' => (∀ i x, i < k → (bl s)[i]? = some x → digit x = true) ∧ Fr noB w w') (fun rec k w1 hk hI hrec => ?_) ⟨fun i x h => by omega, Fr.refl _ _⟩
  obtain ⟨hall, F1⟩ := hI
  refine ite_ok (fun hlt => ?_) fun hge => hkend _ ⟨all_at fun i x hi hx => hall i x ?_ hx, F1⟩
  · have hlt : (k : Int) < s.size := of_decide_eq_true hlt
    obtain ⟨c, hc⟩ : ∃ c, (bl s)[k]? = some c := ⟨_, List.getElem?_eq_getElem (by omega)⟩
    refine join_in (vs := []) (join1_ok (c := .bool) (fun (b : Bool) w' => b = !digit c ∧ w' = w1) (fun kj hkj => chrC_ok hc (ite_ok (fun h => hkj _ _ ⟨?_, rfl⟩) fun h => chrC_ok hc (hkj _ _ ⟨?_, rfl⟩))) ?_)
    · have h : (c.toNat : Int) < 48 := of_decide_eq_true h
      have : digit c = false := decide_eq_false (by omega)
      rw [this]
      rfl
    · have h : ¬ (c.toNat : Int) < 48 := of_decide_eq_false h
      show decide ((c.toNat : Int) > 57) = !decide (48 ≤ c.toNat ∧ c.toNat ≤ 57)
      rw [← decide_not]
      exact decide_eq_decide.2 (by omega)
    rintro b w2 ⟨rfl, rfl⟩
    cases hd : digit c with
    | false =>
      refine ite_yes rfl ⟨?_, F1⟩
      unfold digits
      rw [all_not hc hd, Bool.and_false]
    | true =>
      refine ite_no rfl (hrec (by omega) _ ⟨fun i x hi hx => ?_, F1⟩)
      rcases Nat.lt_succ_iff_lt_or_eq.1 hi with hi | rfl
      · exact hall i x hi hx
      · rw [hc] at hx
        cases hx
        exact hd
  · have hge : ¬ (k : Int) < s.size := of_decide_eq_false hge
    omega
theorem rpart_ok (s : ByteArray) (hs : s.size < 4611686018427387904) : AnsB 117 #[.string s] w (preOk (bl s)) := by
  have hsl := bl_length s
  apply c117
  unfold t117
  refine join0_ok (fun w' => (bl s).all alnum = true ∧ Fr noB w w') (fun kend hkend => ?_) ?_
  · refine count_ok s.size hs (fun k w' => (∀ i x, i < k → (bl s)[i]? = some x → alnum x = true) ∧ Fr noB w w') (fun rec k w1 hk hI hrec => ?_) ⟨fun i x h => by omega, Fr.refl _ _⟩
    obtain ⟨hall, F1⟩ := hI
    refine ite_ok (fun hlt => ?_) fun hge => hkend _ ⟨all_at fun i x hi hx => hall i x ?_ hx, F1⟩
    · have hlt : (k : Int) < s.size := of_decide_eq_true hlt
      obtain ⟨c, hc⟩ : ∃ c, (bl s)[k]? = some c := ⟨_, List.getElem?_eq_getElem (by omega)⟩
      refine join_in (vs := []) (join1_ok (c := .bool) (fun (b : Bool) w' => b = small c ∧ w' = w1) (fun kj hkj => chrC_ok hc (ite_ok (fun h => chrC_ok hc (hkj _ _ ⟨?_, rfl⟩)) fun h => hkj _ _ ⟨?_, rfl⟩)) ?_)
      · have h : (c.toNat : Int) ≥ 97 := of_decide_eq_true h
        exact decide_eq_decide.2 (by omega)
      · have h : ¬ (c.toNat : Int) ≥ 97 := of_decide_eq_false h
        exact (decide_eq_false (by omega)).symm
      rintro b8 w2 ⟨rfl, rfl⟩
      refine join1_ok (c := .bool) (fun (b : Bool) w' => b = great c ∧ w' = w2) (fun kj hkj => chrC_ok hc (ite_ok (fun h => chrC_ok hc (hkj _ _ ⟨?_, rfl⟩)) fun h => hkj _ _ ⟨?_, rfl⟩)) ?_
      · have h : (c.toNat : Int) ≥ 65 := of_decide_eq_true h
        exact decide_eq_decide.2 (by omega)
      · have h : ¬ (c.toNat : Int) ≥ 65 := of_decide_eq_false h
        exact (decide_eq_false (by omega)).symm
      rintro b12 w3 ⟨rfl, rfl⟩
      have hal : alnum c = (digit c || small c || great c || c == 45) := rfl
      refine join1_ok (c := .bool) (fun (b : Bool) w' => b = !alnum c ∧ w' = w3) (fun kj hkj => ?_) ?_
      · cases h1 : small c with
        | true => exact ite_no rfl (hkj _ _ ⟨by rw [hal, h1]; simp, rfl⟩)
        | false =>
          refine ite_yes rfl ?_
          cases h2 : great c with
          | true => exact ite_no rfl (hkj _ _ ⟨by rw [hal, h2]; simp, rfl⟩)
          | false =>
            refine ite_yes rfl (chrC_ok hc ?_)
            rw [bne, u8_lit c 45 (z := 45) rfl]
            cases h3 : c == 45 with
            | true => exact ite_no rfl (hkj _ _ ⟨by rw [hal, h3]; simp, rfl⟩)
            | false =>
              refine ite_yes rfl (chrC_ok hc (ite_ok (fun h => hkj _ _ ⟨?_, rfl⟩) fun h => chrC_ok hc (hkj _ _ ⟨?_, rfl⟩)))
              · have h : (c.toNat : Int) < 48 := of_decide_eq_true h
                have : digit c = false := decide_eq_false (by omega)
                rw [hal, h1, h2, h3, this]
                rfl
              · have h : ¬ (c.toNat : Int) < 48 := of_decide_eq_false h
                rw [hal, h1, h2, h3, Bool.or_false, Bool.or_false, Bool.or_false]
                show decide ((c.toNat : Int) > 57) = !decide (48 ≤ c.toNat ∧ c.toNat ≤ 57)
                rw [← decide_not]
                exact decide_eq_decide.2 (by omega)
      rintro b17 w4 ⟨rfl, rfl⟩
      cases hd : alnum c with
      | false =>
        refine ite_yes rfl ⟨?_, F1⟩
        unfold preOk
        rw [all_not hc hd, Bool.and_false, Bool.false_and]
      | true =>
        refine ite_no rfl (hrec (by omega) _ ⟨fun i x hi hx => ?_, F1⟩)
        rcases Nat.lt_succ_iff_lt_or_eq.1 hi with hi | rfl
        · exact hall i x hi hx
        · rw [hc] at hx
          cases hx
          exact hd
    · have hge : ¬ (k : Int) < s.size := of_decide_eq_false hge
      omega
  rintro w1 ⟨hall, F1⟩
  refine join1_ok (c := .bool) (fun (b : Bool) w' => b = preOk (bl s) ∧ Fr noB w w') (fun k hk => ?_) (fun b w' h => done_b h)
  rw [eq_bl, bl_empty]
  have hpre : preOk (bl s) = (!(bl s).isEmpty && (!digits (bl s) || bl s == [48] || (bl s).head? != some 48)) := by
    unfold preOk
    rw [hall, Bool.and_true]
  rcases bl_cases s with hb | ⟨x, r, hb⟩
  · exact ite_no (by rw [hb]; rfl) (hk _ _ ⟨by rw [hpre, hb]; rfl, F1⟩)
  · have h0 : (bl s)[0]? = some x := by rw [hb]; rfl
    have hemp : (bl s).isEmpty = false := by rw [hb]; rfl
    rw [hemp] at hpre
    refine ite_yes (by rw [hb]; rfl) (callB_ok (rdigits_ok s hs) fun w2 F2 => ?_)
    have F12 := F1.tr F2
    cases hd : digits (bl s) with
    | false => exact ite_yes rfl (hk _ _ ⟨by rw [hpre, hd]; rfl, F12⟩)
    | true =>
      refine ite_no rfl ?_
      rw [eq_bl, show bl (ByteArray.mk #[(48 : UInt8)]) = [48] from rfl]
      cases he : bl s == [48] with
      | true => exact ite_yes rfl (hk _ _ ⟨by rw [hpre, hd, he]; rfl, F12⟩)
      | false =>
        refine ite_no rfl (chr0_ok h0 (hk _ _ ⟨?_, F12⟩))
        rw [hpre, hd, he, hb, bne, u8_lit x 48 (z := 48) rfl]
        simp only [Bool.not_false, Bool.not_true, Bool.true_and, Bool.false_or, List.head?_cons]
        show (!(x == 48)) = !(some x == some 48)
        rw [Option.some_beq_some]
theorem rParts_ok (s : ByteArray) (hs : s.size ≤ 1000) : Calls Tryz.prog 116 #[.string s] w fun e w' => ∃ l : Sl, e = .returned (.slice l.a l.n l.c) ∧ RdS w' l ((parts (bl s)).map bs) ∧ Fr noB w w' := by
  have hsl := bl_length s
  apply c116
  unfold t116
  obtain ⟨ti, z, hi, hz, e1, e2, e3⟩ := rStr
  refine new_ok fun w1 m1 hm1 hs1 B1 F1 => ?_
  have own1 : w1.ownsRow w.heap.size 9 1 (.slice (some ⟨m1, 0, none⟩) 1 1) 1 [.string ⟨#[]⟩] := ⟨rfl, .inr ⟨m1, 1, #[.string ⟨#[]⟩], rfl, by omega, B1, Nat.le_refl _, by unfold maxLen; omega, rfl, rfl⟩⟩
  refine join1_ok (c := .slice) (fun (l : Sl) w' => w'.ownsRow w.heap.size 9 1 (.slice l.a l.n l.c) (parts (bl s)).length (((parts (bl s)).map bs).map Value.string) ∧ Fr noB w w') (fun k2 hk2 => ?_) ?_
  · refine loop_ok (vs := [.one .slice, .one (.int .i64)]) (fun xs w' => ∃ (i : Nat) (pre : List B) (cur : B), i ≤ s.size ∧ (show Int from xs.2.1.1) = (i : Int) ∧ parts (bl s) = pre ++ glue cur (parts ((bl s).drop i)) ∧ pre.length ≤ i ∧ cur.length ≤ i ∧
        w'.ownsRow w.heap.size 9 1 (.slice (show Sl from xs.1.1).a (show Sl from xs.1.1).n (show Sl from xs.1.1).c) (pre.length + 1) (((pre ++ [cur]).map bs).map Value.string) ∧ Fr noB w w')
      (fun xs => s.size - (show Int from xs.2.1.1).toNat) ?_ (xs := (((⟨some ⟨m1, 0, none⟩, 1, 1⟩ : Sl), ()), (((0 : Int), ()), ()))) ⟨0, [], [], Nat.zero_le _, rfl, by rw [List.drop_zero, glue_nil _ (parts_ne _)]; rfl, Nat.le_refl _, Nat.le_refl _, own1, F1⟩
    rintro rec ⟨⟨l4, ⟨⟩⟩, ⟨⟨n, ⟨⟩⟩, ⟨⟩⟩⟩ w2 ⟨i, pre, cur, hi', hin, hp, hpl, hcl, hown, F2⟩ hrec
    change Sl at l4
    change Int at n
    change n = _ at hin
    subst hin
    change w2.ownsRow _ _ _ (.slice l4.a l4.n l4.c) _ _ at hown
    refine ite_ok (fun hlt => ?_) fun hge => hk2 _ _ ⟨?_, F2⟩
    rotate_left
    · have hge : ¬ (i : Int) < s.size := of_decide_eq_false hge
      rw [List.drop_of_length_le (by omega)] at hp
      have e : parts (bl s) = pre ++ [cur] := by rw [hp]; simp [parts, glue]
      rw [e, List.length_append]
      exact hown
    have hlt : (i : Int) < s.size := of_decide_eq_true hlt
    obtain ⟨c, hc⟩ : ∃ c, (bl s)[i]? = some c := ⟨_, List.getElem?_eq_getElem (by omega)⟩
    have hdr : (bl s).drop i = c :: (bl s).drop (i + 1) := by
      obtain ⟨hh, e⟩ := List.getElem?_eq_some_iff.1 hc
      rw [List.drop_eq_getElem_cons hh, e]
    rw [hdr] at hp
    have ewi : IntKind.wrap .i64 ((i : Int) + 1) = ((i + 1 : Nat) : Int) := by rw [wrap_ok (by omega) (by omega)]; omega
    have next : ∀ {l : Sl} {w' : World} {pre' : List B} {cur' : B}, parts (bl s) = pre' ++ glue cur' (parts ((bl s).drop (i + 1))) → pre'.length ≤ i + 1 → cur'.length ≤ i + 1 → w'.ownsRow w.heap.size 9 1 (.slice l.a l.n l.c) (pre'.length + 1) (((pre' ++ [cur']).map bs).map Value.string) → Fr noB w w' →
        uncV rec ((l, ()), ((IntKind.wrap .i64 ((i : Int) + 1), ()), ())) _ w' := fun h1 h2 h3 h4 h5 => by
      rw [ewi]
      exact hrec _ _ ⟨i + 1, _, _, by omega, rfl, h1, h2, h3, h4, h5⟩ (by show s.size - ((i + 1 : Nat) : Int).toNat < s.size - ((i : Nat) : Int).toNat; simp only [Int.toNat_natCast]; omega)
    refine join_in (vs := [.one .slice]) (chrC_ok hc (join_in (vs := [.one .slice]) ?_))
    rw [u8_lit c 46 (z := 46) rfl]
    refine ite_ok (fun h => ?_) fun h => ?_
    · have h : c = 46 := by simpa using h
      subst h
      refine new_ok fun w3 m9 hm9 hs3 B3 F3 => ?_
      have hown3 := own_fr0 hown F3
      refine appendC_ok uStrs hi hz e1 e2 (by rw [e3]; rfl) (by omega) (s := l4) hown3 (m := 1) (news := [.string ⟨#[]⟩]) rfl (B3.held fun j v hj => by rw [Nat.zero_add]; exact hj) (fun u hu => by rw [List.mem_singleton.1 hu]; rfl) (by unfold maxLen; omega) (by omega) (by have := (F2.tr F3).size; omega) fun l10 w4 hown4 F4 => ?_
      refine next (pre' := pre ++ [cur]) (cur' := []) (by rw [hp, glue_dot, List.append_assoc]) (by rw [List.length_append, List.length_singleton]; omega) (Nat.zero_le _) ?_ ((F2.tr F3).then F4 fun y hy h => by have := (hown3.lt y h).1; omega)
      rw [List.length_append, List.length_singleton, List.map_append (l₁ := pre ++ [cur]), List.map_append]
      exact hown4
    · have h : ¬ c = 46 := by simpa using h
      refine drew_ok fun w3 F3 z3 => ?_
      obtain ⟨g, hg, hln, hbg, hgl, hcell, hst⟩ := own_set (i := pre.length) (v := .string (bs (cur ++ [c]))) (R := fun e w' => ∃ l : Sl, e = .returned (.slice l.a l.n l.c) ∧ RdS w' l ((parts (bl s)).map bs) ∧ Fr noB w w') (own_fr0 hown F3) (by omega) rfl
      have hcur := hcell (.string (bs cur)) (by
        rw [List.map_append, List.map_append, List.getElem?_append_right (by simp)]
        simp)
      have ewn : IntKind.wrap .i64 ((l4.n : Int) - 1) = ((pre.length : Nat) : Int) := by rw [wrap_ok (by omega) (by omega)]; omega
      rw [ewn, hg]
      refine idxB_ok (n := l4.n) (i := pre.length) (by omega) ?_
      rw [Nat.zero_add, Nat.mul_one]
      refine ld_ok (c := .str) hcur ?_
      rw [ewi]
      refine subB_ok (i := i) (j := i + 1) (by omega) (by omega) ?_
      rw [hdr, Nat.add_sub_cancel_left, show (c :: (bl s).drop (i + 1)).take 1 = [c] from rfl]
      refine cat_ok (by rw [bs_size, bs_size]; simp only [List.length_singleton]; omega) (idxB_ok (n := l4.n) (i := pre.length) (by omega) ?_)
      rw [Nat.zero_add, Nat.mul_one, bs_append]
      refine hst w3 _ (Fr.refl _ _) fun w4 hown4 F4 => ?_
      rw [← ewi]
      refine next (pre' := pre) (cur' := cur ++ [c]) (by rw [hp, glue_step h]) (by omega) (by rw [List.length_append, List.length_singleton]; omega) ?_ ((F2.tr F3).then F4 fun y hy h => by unfold oneB at h; omega)
      have e : ((((pre ++ [cur]).map bs).map Value.string).set pre.length (.string (bs (cur ++ [c])))) = ((pre ++ [cur ++ [c]]).map bs).map Value.string := by
        rw [List.map_append, List.map_append, List.set_append_right _ _ (by simp)]
        simp
      rw [← e]
      exact hown4
  rintro l w2 ⟨hown, F2⟩
  exact ⟨l, rfl, RdS_own (by rw [List.length_map]; exact hown), F2⟩
theorem rDigits_ok (n : Nat) (hn : n ≤ 9999999) : Calls Tryz.prog 99 #[.int .i64 (n : Int)] w fun e w' => e = .returned (.string (bs (dec n))) ∧ Fr noB w w' := by
  apply c99
  unfold t99
  have hdl := dec_len 6 n (by omega)
  have dig : ∀ {m : Nat} {k : ByteArray → G} {R : Ending → World → Prop} {w : World}, k (bs [UInt8.ofNat (48 + m % 10)]) R w → subG (ByteArray.mk #[48, 49, 50, 51, 52, 53, 54, 55, 56, 57]) (Int.tmod (m : Int) 10) (IntKind.wrap .i64 (Int.tmod (m : Int) 10 + 1)) k R w := fun {m} {k} {R} {w} h => by
    rw [show Int.tmod (m : Int) 10 = ((m % 10 : Nat) : Int) from rfl, wrap_ok (by omega) (by omega), show ((m % 10 : Nat) : Int) + 1 = ((m % 10 + 1 : Nat) : Int) by omega]
    refine subB_ok (s := ByteArray.mk #[48, 49, 50, 51, 52, 53, 54, 55, 56, 57]) (i := m % 10) (j := m % 10 + 1) (by omega) (by show m % 10 + 1 ≤ 10; omega) ?_
    rw [Nat.add_sub_cancel_left, show bl (ByteArray.mk #[48, 49, 50, 51, 52, 53, 54, 55, 56, 57]) = Lex.ten from rfl, ten_at _ (by omega)]
    exact h
  refine dig ?_
  refine join1_ok (c := .str) (fun (s : ByteArray) w' => s = bs (dec n) ∧ w' = w) (fun k2 hk2 => ?_) (fun s w' ⟨h1, h2⟩ => ⟨by rw [h1], by rw [h2]; exact Fr.refl _ _⟩)
  refine loop_ok (vs := [.one (.int .i64), .one .str]) (fun xs w' => ∃ (m : Nat) (rest : B), (show Int from xs.1.1) = (m : Int) ∧ m ≤ n ∧ (show ByteArray from xs.2.1.1) = bs (UInt8.ofNat (48 + m % 10) :: rest) ∧ dec n = dec m ++ rest ∧ w' = w)
    (fun xs => (show Int from xs.1.1).toNat) ?_ (xs := (((n : Int), ()), ((bs [UInt8.ofNat (48 + n % 10)], ()), ()))) ⟨n, [], rfl, Nat.le_refl _, rfl, by simp, rfl⟩
  rintro rec ⟨⟨m', ⟨⟩⟩, ⟨⟨s5, ⟨⟩⟩, ⟨⟩⟩⟩ w2 ⟨m, rest, hm, hmn, hs5, hd, rfl⟩ hrec
  change Int at m'
  change ByteArray at s5
  change m' = _ at hm
  change s5 = _ at hs5
  subst hm hs5
  refine ite_ok (fun hge => ?_) fun hlt => hk2 _ _ ⟨?_, rfl⟩
  · have hge : (m : Int) ≥ 10 := of_decide_eq_true hge
    have hge : ¬ m < 10 := by omega
    rw [show Int.tdiv (m : Int) 10 = ((m / 10 : Nat) : Int) from rfl, wrap_ok (n := ((m / 10 : Nat) : Int)) (by omega) (by omega)]
    have hrl : (dec n).length = (dec m).length + rest.length := by rw [hd, List.length_append]
    refine join_in (vs := [.one (.int .i64), .one .str]) (dig (cat_ok (by rw [bs_size, bs_size, List.length_singleton, List.length_cons]; omega) ?_))
    rw [bs_append]
    refine hrec ((((m / 10 : Nat) : Int), ()), ((_, ()), ())) _ ⟨m / 10, UInt8.ofNat (48 + m % 10) :: rest, rfl, by omega, rfl, ?_, rfl⟩ (by show ((m / 10 : Nat) : Int).toNat < ((m : Nat) : Int).toNat; simp only [Int.toNat_natCast]; omega)
    rw [hd, dec_ge hge]
    simp
  · have hlt : ¬ (m : Int) ≥ 10 := of_decide_eq_false hlt
    have hlt : m < 10 := by omega
    rw [hd, dec_lt hlt, Nat.mod_eq_of_lt hlt]
    rfl
/-- a version's cells -/
def verCells (a b c : Nat) (pre : ByteArray) : List Value := [.int .i64 (a : Int), .int .i64 (b : Int), .int .i64 (c : Int), .string pre]
theorem rCheck_ok (a b c : Nat) (pre : ByteArray) (hp : pre.size ≤ 60) : Calls Tryz.prog 98 #[.agg #[.int .i64 (a : Int), .int .i64 (b : Int), .int .i64 (c : Int), .string pre]] w fun e w' => e = .returned (.int .i64 (if checkV [a, b, c] (bl pre) then 0 else 40)) ∧ Fr noB w w' := by
  have hpl := bl_length pre
  apply c98
  unfold t98
  refine new_ok fun w1 m4 hm4 hs1 B1 F1 => ?_
  change Blk w1 m4 _ (verCells a b c pre) at B1
  have l0 : ∀ {k : Int → G} {R : Ending → World → Prop}, k (a : Int) R w1 → ldG (.int .i64) ⟨m4, 0, none⟩ k R w1 := fun h => B1.ld (c := .int .i64) (o := 0) rfl h
  have l1 : ∀ {k : Int → G} {R : Ending → World → Prop}, k (b : Int) R w1 → ldG (.int .i64) ⟨m4, 1, none⟩ k R w1 := fun h => B1.ld (c := .int .i64) (o := 1) rfl h
  have l2 : ∀ {k : Int → G} {R : Ending → World → Prop}, k (c : Int) R w1 → ldG (.int .i64) ⟨m4, 2, none⟩ k R w1 := fun h => B1.ld (c := .int .i64) (o := 2) rfl h
  have l3 : ∀ {k : ByteArray → G} {R : Ending → World → Prop}, k pre R w1 → ldG .str ⟨m4, 3, none⟩ k R w1 := fun h => B1.ld (c := .str) (o := 3) rfl h
  refine join1_ok (c := .bool) (fun (x : Bool) w' => x = !decide (a ≤ 999999 ∧ b ≤ 999999 ∧ c ≤ 999999 ∧ (bl pre).length ≤ 24) ∧ w' = w1) (fun k5 hk5 => ?_) ?_
  · have no : ∀ {b : Bool}, b = true → ¬ (a ≤ 999999 ∧ _ ∧ _ ∧ (bl pre).length ≤ 24) → k5 b _ w1 := fun {b} hb h => hk5 _ _ ⟨by rw [decide_eq_false h]; exact hb, rfl⟩
    refine l0 (ite_no (decide_eq_false (by omega)) (l0 (ite_ok (fun h => no rfl ?_) fun h0 => ?_)))
    · have h : (a : Int) > 999999 := of_decide_eq_true h
      omega
    refine l1 (ite_no (decide_eq_false (by omega)) (l1 (ite_ok (fun h => no rfl ?_) fun h1 => ?_)))
    · have h : (b : Int) > 999999 := of_decide_eq_true h
      omega
    refine l2 (ite_no (decide_eq_false (by omega)) (l2 (ite_ok (fun h => no rfl ?_) fun h2 => l3 (hk5 _ _ ⟨?_, rfl⟩))))
    · have h : (c : Int) > 999999 := of_decide_eq_true h
      omega
    have h0 : ¬ (a : Int) > 999999 := of_decide_eq_false h0
    have h1 : ¬ (b : Int) > 999999 := of_decide_eq_false h1
    have h2 : ¬ (c : Int) > 999999 := of_decide_eq_false h2
    rw [← decide_not]
    exact decide_eq_decide.2 (by omega)
  rintro x w2 ⟨rfl, hw⟩
  replace hw := hw.symm
  subst hw
  have hck : checkV [a, b, c] (bl pre) = (decide (a ≤ 999999 ∧ b ≤ 999999 ∧ c ≤ 999999 ∧ (bl pre).length ≤ 24) && ((bl pre).isEmpty || (parts (bl pre)).all preOk)) := rfl
  rw [hck]
  cases hd : decide (a ≤ 999999 ∧ b ≤ 999999 ∧ c ≤ 999999 ∧ (bl pre).length ≤ 24) with
  | false => exact ite_yes rfl ⟨rfl, F1⟩
  | true =>
    refine ite_no rfl (l3 ?_)
    rw [eq_bl, bl_empty]
    rcases bl_cases pre with hb | ⟨x, r, hb⟩
    · refine ite_yes (by rw [hb]; rfl) ⟨?_, F1⟩
      rw [hb]
      rfl
    · refine ite_no (by rw [hb]; rfl) (l3 (call_ok (rParts_ok pre (by omega)) ?_))
      rintro _ w3 ⟨l, rfl, hl, F3⟩
      refine ⟨((l, ()), ()), rfl, ?_⟩
      have hemp : (bl pre).isEmpty = false := by rw [hb]; rfl
      rw [hemp, Bool.true_and, Bool.false_or]
      have hln := hl.1
      rw [List.length_map] at hln
      have hpn := parts_len (bl pre)
      refine join0_ok (fun w' => (parts (bl pre)).all preOk = true ∧ Fr noB w w') (fun kend hkend => ?_) (fun w' ⟨h, F⟩ => ⟨by rw [h]; rfl, F⟩)
      refine count_ok (parts (bl pre)).length (by omega) (fun k w' => (∀ i x, i < k → (parts (bl pre))[i]? = some x → preOk x = true) ∧ Fr noB w3 w') (fun rec k w4 hk hI hrec => ?_) ⟨fun i x h => by omega, Fr.refl _ _⟩
      obtain ⟨hall, F4⟩ := hI
      refine ite_ok (fun hlt => ?_) fun hge => hkend _ ⟨?_, (F1.tr F3).tr F4⟩
      · have hlt : (k : Int) < l.n := of_decide_eq_true hlt
        obtain ⟨x, a, hx, hla, rd, hix⟩ := hl.at (k := k) (by rw [List.length_map]; omega)
        rw [hla]
        rw [List.getElem?_map] at hx
        obtain ⟨y, hy, rfl⟩ := Option.map_eq_some_iff.1 hx
        have hyl := parts_each y (List.mem_of_getElem? hy)
        refine join_in (vs := []) (hix (ld_ok (c := .str) (x := bs y) (rd _ F4) (callB_ok (rpart_ok (bs y) (by rw [bs_size]; omega)) fun w5 F5 => ?_)))
        rw [bl_bs]
        cases hok : preOk y with
        | false =>
          refine ite_yes rfl ⟨?_, ((F1.tr F3).tr F4).tr F5⟩
          have : (parts (bl pre)).all preOk = false := by
            rw [List.all_eq_false]
            exact ⟨y, List.mem_of_getElem? hy, by rw [hok]; decide⟩
          rw [this]
          rfl
        | true =>
          refine ite_no rfl (hrec (by omega) _ ⟨fun i z hi hz => ?_, F4.tr F5⟩)
          rcases Nat.lt_succ_iff_lt_or_eq.1 hi with hi | rfl
          · exact hall i z hi hz
          · rw [hy] at hz
            cases hz
            exact hok
      · have hge : ¬ (k : Int) < l.n := of_decide_eq_false hge
        rw [List.all_eq_true]
        intro x hx
        obtain ⟨i, hi⟩ := List.mem_iff_getElem?.1 hx
        have := (List.getElem?_eq_some_iff.1 hi).1
        exact hall i x (by omega) hi
end
end Go.Proofs.YthnfcbjfmghomaaGreatDoor
