/- The Replacer of a quoted text: its builder. No condition. -/
import Derived.Test.YthnfcbjfmghomaaGreatDoorOnceB
import Derived.Test.YthnfcbjfmghomaaGreatDoorLexF
import Derived.Lib.SmallJoins
namespace Go.Lift
theorem Blk.cells {w : World} {m : Nat} {t : TypeId} {L : List Value} (B : Blk w m t L) {k : Nat} {v : Value} (h : L[k]? = some v) : w.cell? ⟨m, k, none⟩ = some v := B.cell h
end Go.Lift
namespace Go.Proofs.YthnfcbjfmghomaaGreatDoor
open Go.Lift Go.Lex
/-- the four bytes that are written otherwise, and how -/
def keys : List UInt8 := [10, 9, 34, 92]
def oldnew : List ByteArray := [bs [10], bs [92, 110], bs [9], bs [92, 116], bs [34], bs [92, 34], bs [92], bs [92, 92]]
def keyed (D : List UInt8) (c : UInt8) : Prop := c ∈ D
/-- the replacer's table, for the keys of D -/
structure Tab (base : Nat) (w : World) (m : Nat) (D : List UInt8) (L : List Value) : Prop where
  blk : Blk w m 163 L
  len : L.length = 257
  no : ∀ c : UInt8, c ∉ D → L[c.toNat]? = some (.slice none 0 0)
  yes : ∀ c : UInt8, c ∈ D → ∃ g cap, L[c.toNat]? = some (.slice (some ⟨g, 0, none⟩) 2 cap) ∧ (∃ cs fz, w.heap[g]? = some (.cells cs 5 fz)) ∧ ∀ j, j < 2 → w.cell? ⟨g, j, none⟩ = some (.int .u8 (((quoteB c).getD j 0).toNat : Int))
  list : ∃ l : Sl, L[256]? = some (.slice l.a l.n l.c) ∧ w.ownsRow base 9 1 (.slice l.a l.n l.c) D.length (D.map fun c => Value.string (bs [c]))
/-- a step that writes none of the table's blocks -/
theorem Tab.frS {S : Nat → Prop} {w w' : World} {m : Nat} {D : List UInt8} {L : List Value} {base : Nat} (h : Tab base w m D L) (F : Fr S w w') (hm : ¬ S m) (hg : ∀ g cs fz, w.heap[g]? = some (.cells cs 5 fz) → ¬ S g) (hl : ∀ l : Sl, w.ownsRow base 9 1 (.slice l.a l.n l.c) D.length (D.map fun c => Value.string (bs [c])) → ∀ k, (Value.slice l.a l.n l.c).ownBlock = some k → ¬ S k) : Tab base w' m D L :=
  ⟨h.blk.fr F hm, h.len, h.no, fun c hc => by
    obtain ⟨g, cap, h1, ⟨cs, fz, h3⟩, h2⟩ := h.yes c hc
    have hng := hg g cs fz h3
    exact ⟨g, cap, h1, ⟨cs, fz, by rw [F.blk g (Array.getElem?_eq_some_iff.1 h3).1 hng]; exact h3⟩, fun j hj => F.cell (h2 j hj) hng⟩, by
    obtain ⟨l, h1, h2⟩ := h.list
    exact ⟨l, h1, own_fr h2 F (hl l h2)⟩⟩
theorem Tab.fr {w w' : World} {m : Nat} {D : List UInt8} {L : List Value} {base : Nat} (h : Tab base w m D L) (F : Fr noB w w') : Tab base w' m D L := h.frS F (fun h => h) (fun _ _ _ _ h => h) fun _ _ _ _ h => h
theorem cell_of_u8 {w : World} {g : Nat} {cs : Array Value} {fz : Nat × Nat} (h : w.heap[g]? = some (.cells cs 5 fz)) {m : Nat} {t : TypeId} {L : List Value} (B : Blk w m t L) (ht : t ≠ 5) : g ≠ m := by
  rintro rfl
  unfold Blk at B
  rw [h] at B
  simp only [Option.some.injEq, Obj.cells.injEq] at B
  exact ht B.2.1.symm
theorem own_u8 {w : World} {g : Nat} {cs : Array Value} {fz : Nat × Nat} (h : w.heap[g]? = some (.cells cs 5 fz)) {base n : Nat} {s : Sl} {xs : List Value} (ho : w.ownsRow base 9 1 (.slice s.a s.n s.c) n xs) : ¬ (Value.slice s.a s.n s.c).ownBlock = some g := by
  intro hk
  rcases ho.2 with ⟨h', _⟩ | ⟨g', cap, cur, h', _, hg, _⟩
  · rw [h'] at hk; cases hk
  · rw [h'] at hk
    cases hk
    rw [hg] at h
    simp only [Option.some.injEq, Obj.cells.injEq] at h
    exact absurd h.2.1 (by decide)
theorem infoSize {P : Program} {t : TypeId} {n : Nat} (h : (P.info? t).map (·.size) = some n) : ∃ i, P.info? t = some i ∧ i.size = n := by
  cases hi : P.info? t with
  | none => rw [hi] at h; cases h
  | some i => rw [hi] at h; exact ⟨i, rfl, by simpa using h⟩
theorem sBsr : (Tryz.prog.info? 163).map (·.size) = some 257 := by kernel_rfl
theorem arr257 (x : Value) : (Array.replicate 256 (Value.slice none 0 0) ++ #[x]).size = 257 := by rw [Array.size_append, Array.size_replicate]; rfl
theorem arr257l (x : Value) : (Array.replicate 256 (Value.slice none 0 0) ++ #[x]).toList = List.replicate 256 (Value.slice none 0 0) ++ [x] := by rw [Array.toList_append, Array.toList_replicate]
theorem uStrs : Tryz.prog.underlying 40 = some (.slice 9) := by kernel_rfl
theorem rStr : rowSays Tryz.prog 9 1 16 #[.string ⟨#[]⟩] := rowSays_of (by kernel_rfl)
section
variable {w : World}
/-- a text as new bytes -/
theorem fresh_ok {R : Ending → World → Prop} {x : ByteArray} {k : Sl → G} (h : ∀ w' cap, (∃ cs fz, w'.heap[w.heap.size]? = some (.cells cs 5 fz)) → (∀ j, j < x.size → w'.cell? ⟨w.heap.size, j, none⟩ = some (.int .u8 (((bl x).getD j 0).toNat : Int))) → Fr noB w w' → k ⟨some ⟨w.heap.size, 0, none⟩, x.size, cap⟩ R w') :
    opG Tryz.prog (convert 9 80 (.string x)) (.one .slice) k R w :=
  ⟨(⟨some ⟨w.heap.size, 0, none⟩, x.size, grownCap w x.size 0 5⟩, ()), Lib.bytesWorld w 5 x, Lib.run_convert_string_bytes w 9 80 5 x us uBytes uByte,
    h _ _ ⟨_, _, Lib.bytesWorld_at_new w 5 x⟩ (fun j hj => Lib.bytesWorld_cell w 5 x j hj) (fr_below (Joins.below_bytesWorld _ w 5 _ (Nat.le_refl _)))⟩
set_option maxHeartbeats 1000000 in
theorem build_ok {b : Nat} {v0 v1 v2 v3 : Value} {l : Sl} (B : Blk w b 122 [v0, v1, v2, v3, .slice l.a l.n l.c]) (hown : w.ownsRow 0 9 1 (.slice l.a l.n l.c) 8 (oldnew.map Value.string)) :
    Calls Tryz.prog 102 #[.pointer (some ⟨b, 0, none⟩)] w fun e w' => ∃ m L, e = .returned (.iface 164 (.pointer (some ⟨m, 0, none⟩))) ∧ Tab w.heap.size w' m [92, 34, 9, 10] L ∧ w.heap.size ≤ m ∧ Fr noB w w' := by
  obtain ⟨l', hl', hln, _⟩ := slice_of_own hown
  obtain ⟨rfl⟩ : l = l' := by
    cases l; cases l'
    simp only [Value.slice.injEq] at hl'
    obtain ⟨rfl, rfl, rfl⟩ := hl'
    rfl
  obtain ⟨g, ha, hcell⟩ : ∃ g, l.a = some ⟨g, 0, none⟩ ∧ ∀ j x, oldnew[j]? = some x → w.cell? ⟨g, j, none⟩ = some (.string x) := by
    rcases hown.2 with ⟨h, h0⟩ | ⟨g, cap, cur, h, _, _⟩
    · cases h0
    · simp only [Value.slice.injEq] at h
      refine ⟨g, h.1, fun j x hx => ?_⟩
      have := hown.cells (g := g) (by rw [h.1]; rfl) j (.string x) (by rw [List.getElem?_map, hx]; rfl)
      rw [Addr.add_lit, Nat.zero_add] at this
      exact this
  have get : ∀ {w' : World} {j : Nat} {x : ByteArray} {k : Addr → G} {R : Ending → World → Prop}, Fr noB w w' → oldnew[j]? = some x → (∀ a, w'.cell? a = some (.string x) → k a R w') → idxG l.a l.n (j : Int) 1 k R w' := by
    intro w' j x k R F hx hk
    rw [ha, hln]
    have hj : j < 8 := (List.getElem?_eq_some_iff.1 hx).1
    exact idxB_ok hj (hk _ (by rw [Nat.zero_add, Nat.mul_one]; exact F.cell (hcell j x hx) (fun h => h)))
  apply c102
  unfold t102
  refine nn_ok (B.ldS (o := 4) rfl ?_)
  refine join1_ok (c := .bool) (fun (x : Bool) w' => x = false ∧ w' = w) (fun k hk => ite_no (by rw [hln]; rfl) (hk _ _ ⟨rfl, rfl⟩)) ?_
  rintro x w' ⟨rfl, hw⟩
  replace hw := hw.symm
  subst hw
  refine ite_no rfl ?_
  refine join1_ok (c := .bool) (fun (x : Bool) w' => x = false ∧ w' = w) (fun kend hkend => ?_) ?_
  · refine loop_ok (vs := [.one .bool, .one (.int .i64)]) (fun xs w' => ∃ k : Nat, k ≤ 4 ∧ (show Bool from xs.1.1) = (k == 0) ∧ (show Int from xs.2.1.1) = ((2 * k : Nat) : Int) ∧ w' = w) (fun xs => 10 - (show Int from xs.2.1.1).toNat) ?_ (xs := ((true, ()), (((0 : Int), ()), ()))) ⟨0, by omega, rfl, rfl, rfl⟩
    rintro rec ⟨⟨x, ⟨⟩⟩, ⟨⟨n, ⟨⟩⟩, ⟨⟩⟩⟩ w' ⟨k, hk, hx, hn, hw⟩ hrec
    change Bool at x
    change Int at n
    change x = _ at hx
    change n = _ at hn
    subst hn
    subst hw
    refine ite_ok (fun hlt => ?_) fun hge => hkend _ _ ⟨?_, rfl⟩
    · have hlt : ((2 * k : Nat) : Int) < (l.n : Int) := of_decide_eq_true hlt
      obtain ⟨y, z, hy, hz, hy1, hz2⟩ : ∃ y z, oldnew[2 * k]? = some y ∧ oldnew[2 * k + 1]? = some z ∧ y.size = 1 ∧ z.size = 2 := by
        match k, (show k < 4 by omega) with
        | 0, _ => exact ⟨_, _, rfl, rfl, rfl, rfl⟩
        | 1, _ => exact ⟨_, _, rfl, rfl, rfl, rfl⟩
        | 2, _ => exact ⟨_, _, rfl, rfl, rfl, rfl⟩
        | 3, _ => exact ⟨_, _, rfl, rfl, rfl, rfl⟩
      unfold joinG
      refine get (Fr.refl _ _) hy fun a hc => ld_ok (c := .str) hc (ite_no (by rw [hy1]; rfl) ?_)
      have ew : IntKind.wrap .i64 (((2 * k : Nat) : Int) + 1) = ((2 * k + 1 : Nat) : Int) := by rw [wrap_ok (by omega) (by omega)]; omega
      rw [ew]
      refine get (Fr.refl _ _) hz fun a hc => ld_ok (c := .str) hc (ite_yes (by rw [hz2]; rfl) ?_)
      have ew2 : IntKind.wrap .i64 (((2 * k : Nat) : Int) + 2) = ((2 * (k + 1) : Nat) : Int) := by rw [wrap_ok (by omega) (by omega)]; omega
      rw [ew2]
      refine hrec ((false, ()), ((((2 * (k + 1) : Nat) : Int), ()), ())) w' ⟨k + 1, by omega, rfl, rfl, rfl⟩ ?_
      show 10 - ((2 * (k + 1) : Nat) : Int).toNat < 10 - ((2 * k : Nat) : Int).toNat
      simp only [Int.toNat_natCast]
      omega
    · have hge : ¬ ((2 * k : Nat) : Int) < (l.n : Int) := of_decide_eq_false hge
      rw [hx, beq_eq_false_iff_ne]
      omega
  rintro x w' ⟨rfl, hw⟩
  subst hw
  refine ite_no rfl ?_
  obtain ⟨ti, z, hi, hz0, h1, h2, h3⟩ := rStr
  have e4 : IntKind.wrap .i64 (Int.tdiv (l.n : Int) 2) = 4 := by rw [hln]; rfl
  rw [e4]
  refine make_ok uStrs hi hz0 (by omega) (by omega) (by rw [h2]; omega) (by omega) fun w1 b1 hb1 hs1 B1 F1 => ?_
  refine new_ok fun w2 m hm hs2 B2 F2 => ?_
  have hb1m : b1 ≠ m := by omega
  refine stRow_ok (by rw [arr257]; exact infoSize sBsr) B2 (by rw [arr257, Array.toList_replicate, List.length_replicate]; omega) (by rw [arr257l]; simp only [List.mem_append, List.mem_replicate, List.mem_singleton]; rintro v (⟨_, rfl⟩ | rfl) <;> rfl) fun w3 B3 F3 hs3 => ?_
  rw [arr257l, arr257, Array.toList_replicate, List.drop_of_length_le (by rw [List.length_replicate]; omega), List.append_nil, List.take_zero, List.nil_append] at B3
  have F03 : Fr noB w' w3 := (F1.tr F2).then F3 fun y hy h => by unfold oneB at h; have := F1.size; omega
  rw [h3, h1, show (#[Value.string ⟨#[]⟩] : Array Value) = Array.replicate 1 (.string ⟨#[]⟩) from rfl, made_rep _ _ _ (by omega), Nat.mul_one] at B1
  have B13 := (B1.fr F2 (fun h => h)).fr F3 (fun h => by unfold oneB at h; omega)
  have T0 : Tab w'.heap.size w3 m [] (List.replicate 256 (Value.slice none 0 0) ++ [.slice (some ⟨b1, 0, none⟩) 0 4]) := by
    refine ⟨B3, by rw [List.length_append, List.length_replicate]; rfl, fun c _ => ?_, fun c hc => (by cases hc), ⟨⟨some ⟨b1, 0, none⟩, 0, 4⟩, ?_, rfl, .inr ⟨b1, 4, _, rfl, by omega, B13, Nat.zero_le _, by unfold maxLen; omega, rfl, rfl⟩⟩⟩
    · have := c.toNat_lt
      rw [List.getElem?_append_left (by rw [List.length_replicate]; omega), List.getElem?_replicate, if_pos (by omega)]
    · rw [List.getElem?_append_right (by rw [List.length_replicate]; omega), List.length_replicate]
      rfl
  refine join0_ok (fun w'' => (∃ L, Tab w'.heap.size w'' m [92, 34, 9, 10] L) ∧ Fr noB w' w'') (fun kend hkend => ?_) (fun w'' ⟨⟨L, hT⟩, F⟩ => ⟨m, L, rfl, hT, by have := F1.size; omega, F⟩)
  have e6 : IntKind.wrap .i64 ((l.n : Int) - 2) = 6 := by rw [hln]; rfl
  rw [e6]
  refine loop1_ok (c := .int .i64) (fun (n : Int) w'' => ∃ j : Nat, j ≤ 4 ∧ n = 2 * (j : Int) - 2 ∧ (∃ L, Tab w'.heap.size w'' m (keys.drop j).reverse L) ∧ Fr noB w' w'') (fun (n : Int) => (n + 2).toNat) ?_ ⟨4, by omega, rfl, ⟨_, T0⟩, F03⟩
  rintro rec n w4 ⟨j, hj, rfl, ⟨L, T⟩, F4⟩ hrec
  refine ite_ok (fun hpos => ?_) fun hpos => hkend _ ⟨⟨L, ?_⟩, F4⟩
  · have hpos : 2 * (j : Int) - 2 ≥ 0 := of_decide_eq_true hpos
    obtain ⟨k, rfl⟩ : ∃ k, j = k + 1 := ⟨j - 1, by omega⟩
    obtain ⟨c, hy, hz, hD, hnew, hq⟩ : ∃ c, oldnew[2 * k]? = some (bs [c]) ∧ oldnew[2 * k + 1]? = some (bs (quoteB c)) ∧ (keys.drop k).reverse = (keys.drop (k + 1)).reverse ++ [c] ∧ c ∉ (keys.drop (k + 1)).reverse ∧ (quoteB c).length = 2 := by
      match k, (show k < 4 by omega) with
      | 0, _ => exact ⟨10, rfl, rfl, rfl, by decide, rfl⟩
      | 1, _ => exact ⟨9, rfl, rfl, rfl, by decide, rfl⟩
      | 2, _ => exact ⟨34, rfl, rfl, rfl, by decide, rfl⟩
      | 3, _ => exact ⟨92, rfl, rfl, rfl, by decide, rfl⟩
    have hDl : (keys.drop (k + 1)).reverse.length ≤ 3 := by
      rw [List.length_reverse, List.length_drop]
      show 4 - (k + 1) ≤ 3
      omega
    generalize (keys.drop (k + 1)).reverse = D at *
    have en : 2 * ((k + 1 : Nat) : Int) - 2 = ((2 * k : Nat) : Int) := by omega
    rw [en]
    refine join_in (get F4 hy fun a hc => ld_ok (c := .str) hc (chr_ok (i := 0) (s := bs [c]) (by rw [bs_size]; simp) ?_))
    have e0 : (bl (bs [c]))[0]'(by rw [bl_length, bs_size]; simp) = c := by simp [bl_bs]
    rw [e0]
    have ew : IntKind.wrap .i64 (((2 * k : Nat) : Int) + 1) = ((2 * k + 1 : Nat) : Int) := by rw [wrap_ok (by omega) (by omega)]; omega
    rw [ew]
    have hc256 := c.toNat_lt
    refine get F4 hz fun a hc => ld_ok (c := .str) hc (idxB_ok (i := c.toNat) hc256 ?_)
    rw [Nat.zero_add, Nat.mul_one]
    refine T.blk.ldS (T.no c hnew) (join_in (ite_yes rfl ?_))
    obtain ⟨l57, hL256, hown57⟩ := T.list
    refine T.blk.ldS hL256 (new_ok fun w5 m58 hm58 hs5 B58 F5 => ?_)
    have o58 : w5.ownsRow 0 5 1 (.slice (some ⟨m58, 0, none⟩) 1 1) 1 (byteCells [c]) := ⟨rfl, .inr ⟨m58, 1, _, rfl, Nat.zero_le _, B58, Nat.le_refl _, by unfold maxLen; omega, rfl, rfl⟩⟩
    refine back_ok (l := ⟨some ⟨m58, 0, none⟩, 1, 1⟩) (n := 1) rfl o58 (new_ok fun w6 m60 hm60 hs6 B60 F6 => ?_)
    have hown6 := own_fr0 (own_fr0 hown57 F5) F6
    have B6 := (T.blk.fr F5 (fun h => h)).fr F6 (fun h => h)
    refine appendC_ok uStrs hi hz0 h1 h2 (by rw [h3]; rfl) (by omega) (s := l57) hown6 (m := 1) (news := [.string (bs [c])]) rfl (B60.held fun j v hj => by rw [Nat.zero_add]; exact hj) (fun u hu => by rw [List.mem_singleton.1 hu]; rfl)
      (by unfold maxLen; omega) (by omega) (by have := F4.size; have := F5.size; have := F6.size; omega) fun l61 w7 hown7 F7 => ?_
    have B7 := B6.fr F7 fun h => own_ne hown6 B6 (by decide) _ h rfl
    refine B7.st (o := 256) rfl (by rw [T.len]; omega) fun w8 B8 F8 => ?_
    have hown8 := own_fr hown7 F8 fun y hy e => own_ne hown7 B7 (by decide) _ hy e.symm
    refine fresh_ok fun w9 cap9 g9 c9 F9 => ?_
    obtain ⟨cs9, fz9, g9⟩ := g9
    have B9 := B8.fr F9 (fun h => h)
    have hown9 := own_fr0 hown8 F9
    have hm8 := B8.lt
    have hqs := bs_size (quoteB c)
    rw [hq] at hqs
    rw [hqs] at c9
    rw [hqs]
    refine idxB_ok (i := c.toNat) hc256 ?_
    rw [Nat.zero_add, Nat.mul_one]
    refine B9.st rfl (by rw [List.length_set, T.len]; omega) fun w10 B10 F10 => ?_
    have hown10 := own_fr hown9 F10 fun y hy e => own_ne hown9 B9 (by decide) _ hy e.symm
    have e2 : IntKind.wrap .i64 (((2 * k : Nat) : Int) - 2) = 2 * (k : Int) - 2 := by rw [wrap_ok (by omega) (by omega)]; omega
    rw [e2]
    let S : Nat → Prop := fun y => y = m ∨ (Value.slice l57.a l57.n l57.c).ownBlock = some y
    have F410 : Fr S w4 w10 := (((((F5.mono fun _ _ h => h.elim).sq (F6.mono fun _ _ h => h.elim)).sq (F7.mono fun _ _ h => .inr h)).sq (F8.mono fun _ _ h => .inl h)).sq (F9.mono fun _ _ h => h.elim)).sq (F10.mono fun _ _ h => .inl h)
    refine hrec _ w10 ⟨k, by omega, rfl, ⟨_, ⟨B10, by rw [List.length_set, List.length_set]; exact T.len, fun c' hc' => ?_, fun c' hc' => ?_, ⟨l61, ?_, ?_⟩⟩⟩, ?_⟩ ?_
    · rw [hD, List.mem_append, List.mem_singleton] at hc'
      have hne : c.toNat ≠ c'.toNat := fun e => hc' (.inr (UInt8.toNat_inj.1 e.symm))
      have := c'.toNat_lt
      rw [List.getElem?_set_ne hne, List.getElem?_set_ne (by omega)]
      exact T.no c' fun h => hc' (.inl h)
    · rw [hD, List.mem_append, List.mem_singleton] at hc'
      rcases hc' with hc' | rfl
      · have hne : c.toNat ≠ c'.toNat := fun e => hnew (UInt8.toNat_inj.1 e ▸ hc')
        have := c'.toNat_lt
        obtain ⟨g', cap, q1, ⟨cs, fz, q2⟩, q3⟩ := T.yes c' hc'
        have hS : ¬ S g' := by
          rintro (h | h)
          · exact cell_of_u8 q2 T.blk (by decide) h
          · exact own_u8 q2 hown57 h
        refine ⟨g', cap, by rw [List.getElem?_set_ne hne, List.getElem?_set_ne (by omega)]; exact q1, ⟨cs, fz, by rw [F410.blk g' (Array.getElem?_eq_some_iff.1 q2).1 hS]; exact q2⟩, fun j hj => F410.cell (q3 j hj) hS⟩
      · refine ⟨w8.heap.size, _, by rw [List.getElem?_set_self (by rw [List.length_set, T.len]; omega)], ⟨_, _, by rw [F10.blk _ (by have := (Array.getElem?_eq_some_iff.1 g9).1; omega) (by unfold oneB; omega)]; exact g9⟩, fun j hj => F10.cell ?_ (by show ¬ w8.heap.size = m; omega)⟩
        have := c9 j hj
        rw [bl_bs] at this
        exact this
    · rw [List.getElem?_set_ne (by omega), List.getElem?_set_self (by rw [T.len]; omega)]
    · rw [hD, List.length_append, List.map_append]
      exact hown10
    · refine (F4.then F410 fun y hy h => ?_)
      rcases h with rfl | h
      · have := F1.size; omega
      · have := (hown57.lt y h).1; omega
    · show (2 * (k : Int) - 2 + 2).toNat < (2 * ((k + 1 : Nat) : Int) - 2 + 2).toNat
      omega
  · have hpos : ¬ 2 * (j : Int) - 2 ≥ 0 := of_decide_eq_false hpos
    have : j = 0 := by omega
    subst this
    exact T
end
end Go.Proofs.YthnfcbjfmghomaaGreatDoor
