/- The law behind: one part of its proof (joined by program out of my own texts). No condition. -/
import Derived.Test.YtngfnokbdcjoeaaGreatDoorVatAU
import Derived.Lib.SmallJoins
section
namespace Go.Lift
theorem Blk.cells {w : World} {m : Nat} {t : TypeId} {L : List Value} (B : Blk w m t L) {k : Nat} {v : Value} (h : L[k]? = some v) : w.cell? ⟨m, k, none⟩ = some v := B.cell h
end Go.Lift
namespace Go.Proofs.YtngfnokbdcjoeaaGreatDoor
open Go.Lift Go.Lex
def keys : List UInt8 := [10, 9, 34, 92]
def oldnew : List ByteArray := [bs [10], bs [92, 110], bs [9], bs [92, 116], bs [34], bs [92, 34], bs [92], bs [92, 92]]
structure Tab (base : Nat) (w : World) (m : Nat) (D : List UInt8) (L : List Value) : Prop where
 blk : Blk w m 250 L
 len : L.length = 257
 no : ∀ c : UInt8, c ∉ D → L[c.toNat]? = some (.slice none 0 0)
 yes : ∀ c : UInt8, c ∈ D → ∃ g cap, L[c.toNat]? = some (.slice (some ⟨g, 0, none⟩) 2 cap) ∧ (∃ cs fz, w.heap[g]? = some (.cells cs 5 fz)) ∧ ∀ j, j < 2 → w.cell? ⟨g, j, none⟩ = some (.int .u8 (((quoteB c).getD j 0).toNat : Int))
 list : ∃ l : Sl, L[256]? = some (.slice l.a l.n l.c) ∧ w.ownsRow base 9 1 (.slice l.a l.n l.c) D.length (D.map fun c => Value.string (bs [c]))
theorem Tab.frS {S : Nat → Prop} {w w' : World} {m : Nat} {D : List UInt8} {L : List Value} {base : Nat} (h : Tab base w m D L) (F : Fr S w w') (hm : ¬ S m) (hg : ∀ g cs fz, w.heap[g]? = some (.cells cs 5 fz) → ¬ S g) (hl : ∀ l : Sl, w.ownsRow base 9 1 (.slice l.a l.n l.c) D.length (D.map fun c => Value.string (bs [c])) → ∀ k, (Value.slice l.a l.n l.c).ownBlock = some k → ¬ S k) : Tab base w' m D L :=
 ⟨h.blk.fr F hm, h.len, h.no, fun c hc => by
  obtain ⟨g, cap, h1, ⟨cs, fz, h3⟩, h2⟩ := h.yes c hc
  have hng := hg g cs fz h3
  exact ⟨g, cap, h1, ⟨cs, fz, by rw [F.blk g (Array.getElem?_eq_some_iff.1 h3).1 hng]; exact h3⟩, fun j hj => F.cell (h2 j hj) hng⟩, by
  obtain ⟨l, h1, h2⟩ := h.list
  exact ⟨l, h1, own_fr h2 F (hl l h2)⟩⟩
theorem Tab.fr {w w' : World} {m : Nat} {D : List UInt8} {L : List Value} {base : Nat} (h : Tab base w m D L) (F : Fr noB w w') : Tab base w' m D L := h.frS F (fun h => h) (fun _ _ _ _ h => h) fun _ _ _ _ h => h
theorem cell_of_u8 {w : World} {g : Nat} {cs : Array Value} {fz : Nat × Nat} (h : w.heap[g]? = some (.cells cs 5 fz)) {m : Nat} {t : TypeId} {L : List Value} (B : Blk w m t L) (ht : t ≠ 5) : g ≠ m := by
 rintro rfl
 unfold Blk at B
 rw [h] at B
 simp only [Option.some.injEq, Obj.cells.injEq] at B
 exact ht B.2.1.symm
theorem own_u8 {w : World} {g : Nat} {cs : Array Value} {fz : Nat × Nat} (h : w.heap[g]? = some (.cells cs 5 fz)) {base n : Nat} {s : Sl} {xs : List Value} (ho : w.ownsRow base 9 1 (.slice s.a s.n s.c) n xs) : ¬ (Value.slice s.a s.n s.c).ownBlock = some g := by
 intro hk
 rcases ho.2 with ⟨h', _⟩ | ⟨g', cap, cur, h', _, hg, _⟩
 ·rw [h'] at hk; cases hk
 ·rw [h'] at hk
  cases hk
  rw [hg] at h
  simp only [Option.some.injEq, Obj.cells.injEq] at h
  exact absurd h.2.1 (by decide)
theorem infoSize {P : Program} {t : TypeId} {n : Nat} (h : (P.info? t).map (·.size) = some n) : ∃ i, P.info? t = some i ∧ i.size = n := by
 cases hi : P.info? t with
 | none => rw [hi] at h; cases h
 | some i => rw [hi] at h; exact ⟨i, rfl, by simpa using h⟩
theorem sBsr : (Tryz.prog.info? 250).map (·.size) = some 257 := by kernel_rfl
theorem arr257 (x : Value) : (Array.replicate 256 (Value.slice none 0 0) ++ #[x]).size = 257 := by rw [Array.size_append, Array.size_replicate]; rfl
theorem arr257l (x : Value) : (Array.replicate 256 (Value.slice none 0 0) ++ #[x]).toList = List.replicate 256 (Value.slice none 0 0) ++ [x] := by rw [Array.toList_append, Array.toList_replicate]
theorem uStrs : Tryz.prog.underlying 22 = some (.slice 9) := by kernel_rfl
theorem rStr : rowSays Tryz.prog 9 1 16 #[.string ⟨#[]⟩] := rowSays_of (by kernel_rfl)
section
variable {w : World}
theorem fresh_ok {R : Ending → World → Prop} {x : ByteArray} {k : Sl → G} (h : ∀ w' cap, (∃ cs fz, w'.heap[w.heap.size]? = some (.cells cs 5 fz)) → (∀ j, j < x.size → w'.cell? ⟨w.heap.size, j, none⟩ = some (.int .u8 (((bl x).getD j 0).toNat : Int))) → Fr noB w w' → k ⟨some ⟨w.heap.size, 0, none⟩, x.size, cap⟩ R w') :
  opG Tryz.prog (convert 9 98 (.string x)) (.one .slice) k R w :=
 ⟨(⟨some ⟨w.heap.size, 0, none⟩, x.size, grownCap w x.size 0 5⟩, ()), Lib.bytesWorld w 5 x, Lib.run_convert_string_bytes w 9 98 5 x us uBytes uByte,
  h _ _ ⟨_, _, Lib.bytesWorld_at_new w 5 x⟩ (fun j hj => Lib.bytesWorld_cell w 5 x j hj) (fr_below (Joins.below_bytesWorld _ w 5 _ (Nat.le_refl _)))⟩
set_option maxHeartbeats 1000000 in
theorem build_ok {b : Nat} {v0 v1 v2 v3 : Value} {l : Sl} (B : Blk w b 192 [v0, v1, v2, v3, .slice l.a l.n l.c]) (hown : w.ownsRow 0 9 1 (.slice l.a l.n l.c) 8 (oldnew.map Value.string)) :
  Calls Tryz.prog 201 #[.pointer (some ⟨b, 0, none⟩)] w fun e w' => ∃ m L, e = .returned (.iface 251 (.pointer (some ⟨m, 0, none⟩))) ∧ Tab w.heap.size w' m [92, 34, 9, 10] L ∧ w.heap.size ≤ m ∧ Fr noB w w' := by
 obtain ⟨l', hl', hln, _⟩ := slice_of_own hown
 obtain ⟨rfl⟩ : l = l' := by
  cases l; cases l'
  simp only [Value.slice.injEq] at hl'
  obtain ⟨rfl, rfl, rfl⟩ := hl'
  rfl
 obtain ⟨g, ha, hcell⟩ : ∃ g, l.a = some ⟨g, 0, none⟩ ∧ ∀ j x, oldnew[j]? = some x → w.cell? ⟨g, j, none⟩ = some (.string x) := by
  rcases hown.2 with ⟨h, h0⟩ | ⟨g, cap, cur, h, _, _⟩
  ·cases h0
  ·simp only [Value.slice.injEq] at h
   refine ⟨g, h.1, fun j x hx => ?_⟩
   have := hown.cells (g := g) (by rw [h.1]; rfl) j (.string x) (by rw [List.getElem?_map, hx]; rfl)
   rw [Addr.add_lit, Nat.zero_add] at this
   exact this
 have get : ∀ {w' : World} {j : Nat} {x : ByteArray} {k : Addr → G} {R : Ending → World → Prop}, Fr noB w w' → oldnew[j]? = some x → (∀ a, w'.cell? a = some (.string x) → k a R w') → idxG l.a l.n (j : Int) 1 k R w' := by
  intro w' j x k R F hx hk
  rw [ha, hln]
  have hj : j < 8 := (List.getElem?_eq_some_iff.1 hx).1
  exact idxB_ok hj (hk _ (by rw [Nat.zero_add, Nat.mul_one]; exact F.cell (hcell j x hx) (fun h => h)))
 apply c201
 unfold t201 wrZ tvZ svZ ldSZ ldLZ nwZ caZ jn0Z jnBZ lpIZ ixZ
 refine nn_ok (B.ldS (o := 4) rfl ?_)
 refine join1_ok (c := .bool) (fun (x : Bool) w' => x = false ∧ w' = w) (fun k hk => ite_no (by rw [hln]; rfl) (hk _ _ ⟨rfl, rfl⟩)) ?_
 rintro x w' ⟨rfl, hw⟩
 replace hw := hw.symm
 subst hw
 refine ite_no rfl ?_
 refine join1_ok (c := .bool) (fun (x : Bool) w' => x = false ∧ w' = w) (fun kend hkend => ?_) ?_
 ·refine loop_ok (vs := [.one .bool, .one (.int .i64)]) (fun xs w' => ∃ k : Nat, k ≤ 4 ∧ (show Bool from xs.1.1) = (k == 0) ∧ (show Int from xs.2.1.1) = ((2 * k : Nat) : Int) ∧ w' = w) (fun xs => 10 - (show Int from xs.2.1.1).toNat) ?_ (xs := ((true, ()), (((0 : Int), ()), ()))) ⟨0, by omega, rfl, rfl, rfl⟩
  rintro rec ⟨⟨x, ⟨⟩⟩, ⟨⟨n, ⟨⟩⟩, ⟨⟩⟩⟩ w' ⟨k, hk, hx, hn, hw⟩ hrec
  change Bool at x
  change Int at n
  change x = _ at hx
  change n = _ at hn
  subst hn
  subst hw
  refine ite_ok (fun hlt => ?_) fun hge => hkend _ _ ⟨?_, rfl⟩
  ·have hlt : ((2 * k : Nat) : Int) < (l.n : Int) := of_decide_eq_true hlt
   obtain ⟨y, z, hy, hz, hy1, hz2⟩ : ∃ y z, oldnew[2 * k]? = some y ∧ oldnew[2 * k + 1]? = some z ∧ y.size = 1 ∧ z.size = 2 := by
    match k, (show k < 4 by omega) with
    | 0, _ => exact ⟨_, _, rfl, rfl, rfl, rfl⟩
    | 1, _ => exact ⟨_, _, rfl, rfl, rfl, rfl⟩
    | 2, _ => exact ⟨_, _, rfl, rfl, rfl, rfl⟩
    | 3, _ => exact ⟨_, _, rfl, rfl, rfl, rfl⟩
   unfold joinG
   refine get (Fr.refl _ _) hy fun a hc => ld_ok (c := .str) hc (ite_no (by rw [hy1]; rfl) ?_)
   have ew : IntKind.wrap .i64 (((2 * k : Nat) : Int) + 1) = ((2 * k + 1 : Nat) : Int) := by rw [wrap_ok (by omega) (by omega)]; omega
   rw [ew]
   refine get (Fr.refl _ _) hz fun a hc => ld_ok (c := .str) hc (ite_yes (by rw [hz2]; rfl) ?_)
   have ew2 : IntKind.wrap .i64 (((2 * k : Nat) : Int) + 2) = ((2 * (k + 1) : Nat) : Int) := by rw [wrap_ok (by omega) (by omega)]; omega
   rw [ew2]
   refine hrec ((false, ()), ((((2 * (k + 1) : Nat) : Int), ()), ())) w' ⟨k + 1, by omega, rfl, rfl, rfl⟩ ?_
   show 10 - ((2 * (k + 1) : Nat) : Int).toNat < 10 - ((2 * k : Nat) : Int).toNat
   simp only [Int.toNat_natCast]
   omega
  ·have hge : ¬ ((2 * k : Nat) : Int) < (l.n : Int) := of_decide_eq_false hge
   rw [hx, beq_eq_false_iff_ne]
   omega
 rintro x w' ⟨rfl, hw⟩
 subst hw
 refine ite_no rfl ?_
 obtain ⟨ti, z, hi, hz0, h1, h2, h3⟩ := rStr
 have e4 : IntKind.wrap .i64 (Int.tdiv (l.n : Int) 2) = 4 := by rw [hln]; rfl
 rw [e4]
 refine make_ok uStrs hi hz0 (by omega) (by omega) (by rw [h2]; omega) (by omega) fun w1 b1 hb1 hs1 B1 F1 => ?_
 refine new_ok fun w2 m hm hs2 B2 F2 => ?_
 have hb1m : b1 ≠ m := by omega
 refine stRow_ok (by rw [arr257]; exact infoSize sBsr) B2 (by rw [arr257, Array.toList_replicate, List.length_replicate]; omega) (by rw [arr257l]; simp only [List.mem_append, List.mem_replicate, List.mem_singleton]; rintro v (⟨_, rfl⟩ | rfl) <;> rfl) fun w3 B3 F3 hs3 => ?_
 rw [arr257l, arr257, Array.toList_replicate, List.drop_of_length_le (by rw [List.length_replicate]; omega), List.append_nil, List.take_zero, List.nil_append] at B3
 have F03 : Fr noB w' w3 := (F1.tr F2).then F3 fun y hy h => by unfold oneB at h; have := F1.size; omega
 rw [h3, h1, show (#[Value.string ⟨#[]⟩] : Array Value) = Array.replicate 1 (.string ⟨#[]⟩) from rfl, made_rep _ _ _ (by omega), Nat.mul_one] at B1
 have B13 := (B1.fr F2 (fun h => h)).fr F3 (fun h => by unfold oneB at h; omega)
 have T0 : Tab w'.heap.size w3 m [] (List.replicate 256 (Value.slice none 0 0) ++ [.slice (some ⟨b1, 0, none⟩) 0 4]) := by
  refine ⟨B3, by rw [List.length_append, List.length_replicate]; rfl, fun c _ => ?_, fun c hc => (by cases hc), ⟨⟨some ⟨b1, 0, none⟩, 0, 4⟩, ?_, rfl, .inr ⟨b1, 4, _, rfl, by omega, B13, Nat.zero_le _, by unfold maxLen; omega, rfl, rfl⟩⟩⟩
  ·have := c.toNat_lt
   rw [List.getElem?_append_left (by rw [List.length_replicate]; omega), List.getElem?_replicate, if_pos (by omega)]
  ·rw [List.getElem?_append_right (by rw [List.length_replicate]; omega), List.length_replicate]
   rfl
 refine join0_ok (fun w'' => (∃ L, Tab w'.heap.size w'' m [92, 34, 9, 10] L) ∧ Fr noB w' w'') (fun kend hkend => ?_) (fun w'' ⟨⟨L, hT⟩, F⟩ => ⟨m, L, rfl, hT, by have := F1.size; omega, F⟩)
 have e6 : IntKind.wrap .i64 ((l.n : Int) - 2) = 6 := by rw [hln]; rfl
 rw [e6]
 refine loop1_ok (c := .int .i64) (fun (n : Int) w'' => ∃ j : Nat, j ≤ 4 ∧ n = 2 * (j : Int) - 2 ∧ (∃ L, Tab w'.heap.size w'' m (keys.drop j).reverse L) ∧ Fr noB w' w'') (fun (n : Int) => (n + 2).toNat) ?_ ⟨4, by omega, rfl, ⟨_, T0⟩, F03⟩
 rintro rec n w4 ⟨j, hj, rfl, ⟨L, T⟩, F4⟩ hrec
 refine ite_ok (fun hpos => ?_) fun hpos => hkend _ ⟨⟨L, ?_⟩, F4⟩
 ·have hpos : 2 * (j : Int) - 2 ≥ 0 := of_decide_eq_true hpos
  obtain ⟨k, rfl⟩ : ∃ k, j = k + 1 := ⟨j - 1, by omega⟩
  obtain ⟨c, hy, hz, hD, hnew, hq⟩ : ∃ c, oldnew[2 * k]? = some (bs [c]) ∧ oldnew[2 * k + 1]? = some (bs (quoteB c)) ∧ (keys.drop k).reverse = (keys.drop (k + 1)).reverse ++ [c] ∧ c ∉ (keys.drop (k + 1)).reverse ∧ (quoteB c).length = 2 := by
   match k, (show k < 4 by omega) with
   | 0, _ => exact ⟨10, rfl, rfl, rfl, by decide, rfl⟩
   | 1, _ => exact ⟨9, rfl, rfl, rfl, by decide, rfl⟩
   | 2, _ => exact ⟨34, rfl, rfl, rfl, by decide, rfl⟩
   | 3, _ => exact ⟨92, rfl, rfl, rfl, by decide, rfl⟩
  have hDl : (keys.drop (k + 1)).reverse.length ≤ 3 := by
   rw [List.length_reverse, List.length_drop]
   show 4 - (k + 1) ≤ 3
   omega
  generalize (keys.drop (k + 1)).reverse = D at *
  have en : 2 * ((k + 1 : Nat) : Int) - 2 = ((2 * k : Nat) : Int) := by omega
  rw [en]
  refine join_in (get F4 hy fun a hc => ld_ok (c := .str) hc (chr_ok (i := 0) (s := bs [c]) (by rw [bs_size]; simp) ?_))
  have e0 : (bl (bs [c]))[0]'(by rw [bl_length, bs_size]; simp) = c := by simp [bl_bs]
  rw [e0]
  have ew : IntKind.wrap .i64 (((2 * k : Nat) : Int) + 1) = ((2 * k + 1 : Nat) : Int) := by rw [wrap_ok (by omega) (by omega)]; omega
  rw [ew]
  have hc256 := c.toNat_lt
  refine get F4 hz fun a hc => ld_ok (c := .str) hc (idxB_ok (i := c.toNat) hc256 ?_)
  rw [Nat.zero_add, Nat.mul_one]
  refine T.blk.ldS (T.no c hnew) (join_in (ite_yes rfl ?_))
  obtain ⟨l57, hL256, hown57⟩ := T.list
  refine T.blk.ldS hL256 (new_ok fun w5 m58 hm58 hs5 B58 F5 => ?_)
  have o58 : w5.ownsRow 0 5 1 (.slice (some ⟨m58, 0, none⟩) 1 1) 1 (byteCells [c]) := ⟨rfl, .inr ⟨m58, 1, _, rfl, Nat.zero_le _, B58, Nat.le_refl _, by unfold maxLen; omega, rfl, rfl⟩⟩
  refine back_ok (l := ⟨some ⟨m58, 0, none⟩, 1, 1⟩) (n := 1) rfl o58 (new_ok fun w6 m60 hm60 hs6 B60 F6 => ?_)
  have hown6 := own_fr0 (own_fr0 hown57 F5) F6
  have B6 := (T.blk.fr F5 (fun h => h)).fr F6 (fun h => h)
  refine appendC_ok uStrs hi hz0 h1 h2 (by rw [h3]; rfl) (by omega) (s := l57) hown6 (m := 1) (news := [.string (bs [c])]) rfl (B60.held fun j v hj => by rw [Nat.zero_add]; exact hj) (fun u hu => by rw [List.mem_singleton.1 hu]; rfl)
   (by unfold maxLen; omega) (by omega) (by have := F4.size; have := F5.size; have := F6.size; omega) fun l61 w7 hown7 F7 => ?_
  have B7 := B6.fr F7 fun h => own_ne hown6 B6 (by decide) _ h rfl
  refine B7.st (o := 256) rfl (by rw [T.len]; omega) fun w8 B8 F8 => ?_
  have hown8 := own_fr hown7 F8 fun y hy e => own_ne hown7 B7 (by decide) _ hy e.symm
  refine fresh_ok fun w9 cap9 g9 c9 F9 => ?_
  obtain ⟨cs9, fz9, g9⟩ := g9
  have B9 := B8.fr F9 (fun h => h)
  have hown9 := own_fr0 hown8 F9
  have hm8 := B8.lt
  have hqs := bs_size (quoteB c)
  rw [hq] at hqs
  rw [hqs] at c9
  rw [hqs]
  refine idxB_ok (i := c.toNat) hc256 ?_
  rw [Nat.zero_add, Nat.mul_one]
  refine B9.st rfl (by rw [List.length_set, T.len]; omega) fun w10 B10 F10 => ?_
  have hown10 := own_fr hown9 F10 fun y hy e => own_ne hown9 B9 (by decide) _ hy e.symm
  have e2 : IntKind.wrap .i64 (((2 * k : Nat) : Int) - 2) = 2 * (k : Int) - 2 := by rw [wrap_ok (by omega) (by omega)]; omega
  rw [e2]
  let S : Nat → Prop := fun y => y = m ∨ (Value.slice l57.a l57.n l57.c).ownBlock = some y
  have F410 : Fr S w4 w10 := (((((F5.mono fun _ _ h => h.elim).sq (F6.mono fun _ _ h => h.elim)).sq (F7.mono fun _ _ h => .inr h)).sq (F8.mono fun _ _ h => .inl h)).sq (F9.mono fun _ _ h => h.elim)).sq (F10.mono fun _ _ h => .inl h)
  refine hrec _ w10 ⟨k, by omega, rfl, ⟨_, ⟨B10, by rw [List.length_set, List.length_set]; exact T.len, fun c' hc' => ?_, fun c' hc' => ?_, ⟨l61, ?_, ?_⟩⟩⟩, ?_⟩ ?_
  ·rw [hD, List.mem_append, List.mem_singleton] at hc'
   have hne : c.toNat ≠ c'.toNat := fun e => hc' (.inr (UInt8.toNat_inj.1 e.symm))
   have := c'.toNat_lt
   rw [List.getElem?_set_ne hne, List.getElem?_set_ne (by omega)]
   exact T.no c' fun h => hc' (.inl h)
  ·rw [hD, List.mem_append, List.mem_singleton] at hc'
   rcases hc' with hc' | rfl
   ·have hne : c.toNat ≠ c'.toNat := fun e => hnew (UInt8.toNat_inj.1 e ▸ hc')
    have := c'.toNat_lt
    obtain ⟨g', cap, q1, ⟨cs, fz, q2⟩, q3⟩ := T.yes c' hc'
    have hS : ¬ S g' := by
     rintro (h | h)
     ·exact cell_of_u8 q2 T.blk (by decide) h
     ·exact own_u8 q2 hown57 h
    refine ⟨g', cap, by rw [List.getElem?_set_ne hne, List.getElem?_set_ne (by omega)]; exact q1, ⟨cs, fz, by rw [F410.blk g' (Array.getElem?_eq_some_iff.1 q2).1 hS]; exact q2⟩, fun j hj => F410.cell (q3 j hj) hS⟩
   ·refine ⟨w8.heap.size, _, by rw [List.getElem?_set_self (by rw [List.length_set, T.len]; omega)], ⟨_, _, by rw [F10.blk _ (by have := (Array.getElem?_eq_some_iff.1 g9).1; omega) (by unfold oneB; omega)]; exact g9⟩, fun j hj => F10.cell ?_ (by show ¬ w8.heap.size = m; omega)⟩
    have := c9 j hj
    rw [bl_bs] at this
    exact this
  ·rw [List.getElem?_set_ne (by omega), List.getElem?_set_self (by rw [T.len]; omega)]
  ·rw [hD, List.length_append, List.map_append]
   exact hown10
  ·refine (F4.then F410 fun y hy h => ?_)
   rcases h with rfl | h
   ·have := F1.size; omega
   ·have := (hown57.lt y h).1; omega
  ·show (2 * (k : Int) - 2 + 2).toNat < (2 * ((k + 1 : Nat) : Int) - 2 + 2).toNat
   omega
 ·have hpos : ¬ 2 * (j : Int) - 2 ≥ 0 := of_decide_eq_false hpos
  have : j = 0 := by omega
  subst this
  exact T
end
end Go.Proofs.YtngfnokbdcjoeaaGreatDoor
end
section
namespace Go.Lift
theorem join2_ok {c d : CT} {x : (c.T → d.T → G) → G} {k : c.T → d.T → G} {R : Ending → World → Prop} {w : World} (M : c.T → d.T → World → Prop) (hx : ∀ kj : c.T → d.T → G, (∀ y z w', M y z w' → kj y z R w') → x kj R w) (hk : ∀ y z w', M y z w' → k y z R w') : joinG [.one c, .one d] x k R w := hx k hk
theorem fill_row {A cs : List Value} {z : Value} {n : Nat} (_ : cs.length ≤ n) : (A ++ List.replicate n z).take A.length ++ (cs ++ (A ++ List.replicate n z).drop (A.length + cs.length)) = (A ++ cs) ++ List.replicate (n - cs.length) z := by
 rw [List.take_left, List.drop_append, List.drop_of_length_le (by omega), List.nil_append, Nat.add_sub_cancel_left, List.drop_replicate, List.append_assoc]
theorem fill_cell {A : List Value} {z v : Value} {n : Nat} (h : 1 ≤ n) : (A ++ List.replicate n z).set A.length v = (A ++ [v]) ++ List.replicate (n - 1) z := by
 obtain ⟨k, rfl⟩ : ∃ k, n = k + 1 := ⟨n - 1, by omega⟩
 rw [List.set_append, if_neg (by omega), Nat.sub_self, List.replicate_succ, List.set_cons_zero, List.append_assoc]
 rfl
end Go.Lift
namespace Go.Proofs.YtngfnokbdcjoeaaGreatDoor
open Go.Lift Go.Lex
section
variable {w : World} {m base : Nat} {L : List Value}
theorem Tab.at (T : Tab base w m kset L) (c : UInt8) : (isKey c = true ∧ ∃ g cap, L[c.toNat]? = some (.slice (some ⟨g, 0, none⟩) 2 cap) ∧ ∀ j, j < 2 → w.cell? ⟨g, j, none⟩ = some (.int .u8 (((quoteB c).getD j 0).toNat : Int))) ∨ (isKey c = false ∧ L[c.toNat]? = some (.slice none 0 0)) := by
 cases h : isKey c with
 | true =>
  obtain ⟨g, cap, h1, _, h2⟩ := T.yes c (List.contains_iff_mem.1 h)
  exact .inl ⟨rfl, g, cap, h1, h2⟩
 | false => exact .inr ⟨rfl, T.no c fun hc => by rw [isKey, List.contains_iff_mem.2 hc] at h; cases h⟩
set_option maxHeartbeats 2000000 in
theorem rep_ok (T : Tab base w m kset L) (s : ByteArray) (hs : s.size ≤ 140737488351232) : Calls Tryz.prog 315 #[.pointer (some ⟨m, 0, none⟩), .string s] w fun e w' => e = .returned (.string (bs ((bl s).flatMap quoteB))) ∧ Fr noB w w' := by
 have hsl := bl_length s
 have hql := quote_len (bl s)
 have hcp : (bl s).countP isKey ≤ (bl s).length := List.countP_le_length
 apply c315
 unfold t315 wrZ tvZ ldSZ ldLZ caIZ jn0Z jnIZ lpIIZ ixZ
 obtain ⟨l3, hL, hown⟩ := T.list
 obtain ⟨hln, g3, ha3, hcell⟩ : l3.n = 4 ∧ ∃ g, l3.a = some ⟨g, 0, none⟩ ∧ ∀ (j : Nat) c, kset[j]? = some c → w.cell? ⟨g, j, none⟩ = some (.string (bs [c])) := by
  rcases hown.2 with ⟨_, h0⟩ | ⟨g, cap, cur, h, _, _⟩
  ·cases h0
  ·simp only [Value.slice.injEq] at h
   refine ⟨h.2.1, g, h.1, fun j c hc => ?_⟩
   have := hown.cells (g := g) (by rw [h.1]; rfl) j (.string (bs [c])) (by rw [List.getElem?_map, hc]; rfl)
   rw [Addr.add_lit, Nat.zero_add] at this
   exact this
 refine nn_ok (T.blk.ldS (o := 256) hL ?_)
 refine join2_ok (c := .int .i64) (d := .bool) (fun (n : Int) (x : Bool) w' => n = ((((bl s).flatMap quoteB).length : Nat) : Int) ∧ x = (bl s).any isKey ∧ Fr noB w w') (fun k4 hk4 => ?_) ?_
 ·refine ite_ok (fun _ => nn_ok (T.blk.ldS (o := 256) hL ?_)) fun _ => ?_
  ·refine join2_ok (c := .int .i64) (d := .bool) (fun (n : Int) (x : Bool) w' => n = ((((bl s).flatMap quoteB).length : Nat) : Int) ∧ x = (bl s).any isKey ∧ Fr noB w w') (fun k7 hk7 => ?_) (fun n x w' h => hk4 _ _ _ h)
   refine loop_ok (vs := [.one (.int .i64), .one .bool, .one (.int .i64)]) (fun xs w' => ∃ k : Nat, k ≤ 4 ∧ (show Int from xs.1.1) = ((s.size + sumK (bl s) k : Nat) : Int) ∧ (show Bool from xs.2.1.1) = (kset.take k).any (fun c => decide ((bl s).count c ≠ 0)) ∧ (show Int from xs.2.2.1.1) = (k : Int) ∧ Fr noB w w')
    (fun xs => 10 - (show Int from xs.2.2.1.1).toNat) ?_ (xs := (((s.size : Int), ()), ((false, ()), (((0 : Int), ()), ())))) ⟨0, by omega, rfl, rfl, rfl, Fr.refl _ _⟩
   rintro rec ⟨⟨n, ⟨⟩⟩, ⟨⟨x, ⟨⟩⟩, ⟨⟨i, ⟨⟩⟩, ⟨⟩⟩⟩⟩ w1 ⟨k, hk, hn, hx, hi, F1⟩ hrec
   change Int at n
   change Bool at x
   change Int at i
   change n = _ at hn
   change x = _ at hx
   change i = _ at hi
   subst hn
   subst hx
   subst hi
   refine ite_ok (fun hlt => ?_) fun hge => hk7 _ _ _ ⟨?_, ?_, F1⟩
   ·have hlt : (k : Int) < (l3.n : Int) := of_decide_eq_true hlt
    obtain ⟨c, hc⟩ : ∃ c, kset[k]? = some c := ⟨_, List.getElem?_eq_getElem (by show k < 4; omega)⟩
    have hkey : isKey c = true := List.contains_iff_mem.2 (List.mem_of_getElem? hc)
    have hsum : sumK (bl s) (k + 1) = sumK (bl s) k + (bl s).count c := by
     unfold sumK
     rw [List.take_add_one, hc]
     simp
    have hany : (kset.take (k + 1)).any (fun c => decide ((bl s).count c ≠ 0)) = ((kset.take k).any (fun c => decide ((bl s).count c ≠ 0)) || decide ((bl s).count c ≠ 0)) := by
     rw [List.take_add_one, hc]
     simp
    have hsumle := sumK_le (bl s) k
    have hcnt : (bl s).count c ≤ (bl s).length := List.count_le_length
    have ewk : IntKind.wrap .i64 ((k : Int) + 1) = ((k + 1 : Nat) : Int) := by rw [wrap_ok (by omega) (by omega)]; omega
    unfold joinG
    rw [ha3, hln]
    refine idxB_ok (i := k) (by omega) ?_
    rw [Nat.zero_add, Nat.mul_one]
    refine ld_ok (c := .str) (F1.cell (hcell k c hc) (fun h => h)) (callI_ok (n := (((bl s).count c : Nat) : Int)) (Y := fun w' => w' = w1) (Tryz.strings_Count_one s c w1) fun w2 hw => ?_)
    subst hw
    have T2 := T.fr F1
    refine ite_ok (fun h0 => drew_ok fun w3 F3 z3 => ?_) fun h0 => ?_
    ·have h0 : ¬ (((bl s).count c : Nat) : Int) = 0 := by simpa using h0
     have T3 := T2.fr F3
     refine chr_ok (i := 0) (s := bs [c]) (by rw [bs_size]; simp) (nn_ok ?_)
     have e0 : (bl (bs [c]))[0]'(by rw [bl_length, bs_size]; simp) = c := by simp [bl_bs]
     rw [e0]
     rcases T3.at c with ⟨_, g, cap, hLc, _⟩ | ⟨hno, _⟩
     ·refine idxB_ok (i := c.toNat) c.toNat_lt ?_
      show ldG .slice ⟨m, 0 + c.toNat * 1, none⟩ _ _ _
      rw [Nat.zero_add, Nat.mul_one]
      refine T3.blk.ldS hLc ?_
      have ew : IntKind.wrap .i64 (((s.size + sumK (bl s) k : Nat) : Int) + IntKind.wrap .i64 ((((bl s).count c : Nat) : Int) * IntKind.wrap .i64 (((2 : Nat) : Int) - 1))) = ((s.size + sumK (bl s) (k + 1) : Nat) : Int) := by
       rw [show IntKind.wrap .i64 (((2 : Nat) : Int) - 1) = 1 from rfl, Int.mul_one, wrap_ok (n := (((bl s).count c : Nat) : Int)) (by omega) (by omega), wrap_ok (by omega) (by omega), hsum]
       omega
      show uncV rec ((IntKind.wrap .i64 (((s.size + sumK (bl s) k : Nat) : Int) + IntKind.wrap .i64 ((((bl s).count c : Nat) : Int) * IntKind.wrap .i64 (((2 : Nat) : Int) - 1))), ()), ((true, ()), ((IntKind.wrap .i64 ((k : Int) + 1), ()), ()))) _ _
      rw [ew, ewk]
      refine hrec _ w3 ⟨k + 1, by omega, rfl, ?_, rfl, F1.tr F3⟩ ?_
      ·show true = _
       rw [hany, decide_eq_true (p := (bl s).count c ≠ 0) (by omega), Bool.or_true]
      ·show 10 - ((k + 1 : Nat) : Int).toNat < 10 - ((k : Nat) : Int).toNat
       simp only [Int.toNat_natCast]; omega
     ·rw [hkey] at hno; cases hno
    ·have h0 : (((bl s).count c : Nat) : Int) = 0 := by simpa using h0
     rw [ewk]
     refine hrec ((((s.size + sumK (bl s) k : Nat) : Int), ()), ((_, ()), ((((k + 1 : Nat) : Int), ()), ()))) w2 ⟨k + 1, by omega, ?_, ?_, rfl, F1⟩ ?_
     ·rw [hsum]
      show ((s.size + sumK (bl s) k : Nat) : Int) = _
      omega
     ·show (kset.take k).any (fun c => decide ((bl s).count c ≠ 0)) = _
      rw [hany, decide_eq_false (p := (bl s).count c ≠ 0) (by omega), Bool.or_false]
     ·show 10 - ((k + 1 : Nat) : Int).toNat < 10 - ((k : Nat) : Int).toNat
      simp only [Int.toNat_natCast]; omega
   ·have hge : ¬ (k : Int) < (l3.n : Int) := of_decide_eq_false hge
    have : k = 4 := by omega
    subst this
    rw [hql, hsl, sumK_all]
   ·have hge : ¬ (k : Int) < (l3.n : Int) := of_decide_eq_false hge
    have : k = 4 := by omega
    subst this
    exact anyK_all _
  ·refine join2_ok (c := .int .i64) (d := .bool) (fun (n : Int) (x : Bool) w' => n = ((((bl s).flatMap quoteB).length : Nat) : Int) ∧ x = (bl s).any isKey ∧ Fr noB w w') (fun k27 hk27 => ?_) (fun n x w' h => hk4 _ _ _ h)
   refine loop_ok (vs := [.one (.int .i64), .one .bool, .one (.int .i64)]) (fun xs w' => ∃ k : Nat, k ≤ s.size ∧ (show Int from xs.1.1) = ((s.size + ((bl s).take k).countP isKey : Nat) : Int) ∧ (show Bool from xs.2.1.1) = ((bl s).take k).any isKey ∧ (show Int from xs.2.2.1.1) = (k : Int) ∧ w' = w)
    (fun xs => s.size - (show Int from xs.2.2.1.1).toNat) ?_ (xs := (((s.size : Int), ()), ((false, ()), (((0 : Int), ()), ())))) ⟨0, by omega, rfl, rfl, rfl, rfl⟩
   rintro rec ⟨⟨n, ⟨⟩⟩, ⟨⟨x, ⟨⟩⟩, ⟨⟨i, ⟨⟩⟩, ⟨⟩⟩⟩⟩ w1 ⟨k, hk, hn, hx, hi, hw⟩ hrec
   change Int at n
   change Bool at x
   change Int at i
   change n = _ at hn
   change x = _ at hx
   change i = _ at hi
   subst hn
   subst hx
   subst hi
   subst hw
   refine ite_ok (fun hlt => ?_) fun hge => hk27 _ _ _ ⟨?_, ?_, Fr.refl _ _⟩
   ·have hlt : (k : Int) < (s.size : Int) := of_decide_eq_true hlt
    have hc := bl_at (s := s) (i := k) (by omega)
    have ewk : IntKind.wrap .i64 ((k : Int) + 1) = ((k + 1 : Nat) : Int) := by rw [wrap_ok (by omega) (by omega)]; omega
    unfold joinG
    refine chr_ok (by omega) (nn_ok ?_)
    generalize (bl s)[k]'(by rw [hsl]; omega) = c at *
    have htk : (bl s).take (k + 1) = (bl s).take k ++ [c] := by rw [List.take_add_one, hc]; rfl
    have hcp2 : ((bl s).take k).countP isKey ≤ ((bl s).take k).length := List.countP_le_length
    rw [List.length_take] at hcp2
    refine idxB_ok (i := c.toNat) c.toNat_lt ?_
    show ldG .slice ⟨m, 0 + c.toNat * 1, none⟩ _ _ _
    rw [Nat.zero_add, Nat.mul_one]
    rcases T.at c with ⟨hkey, g, cap, hLc, _⟩ | ⟨hkey, hLc⟩
    ·refine T.blk.ldS hLc (ite_yes rfl (nn_ok ?_))
     refine idxB_ok (i := c.toNat) c.toNat_lt ?_
     show ldG .slice ⟨m, 0 + c.toNat * 1, none⟩ _ _ _
     rw [Nat.zero_add, Nat.mul_one]
     refine T.blk.ldS hLc ?_
     have ew : IntKind.wrap .i64 (((s.size + ((bl s).take k).countP isKey : Nat) : Int) + IntKind.wrap .i64 (((2 : Nat) : Int) - 1)) = ((s.size + ((bl s).take (k + 1)).countP isKey : Nat) : Int) := by
      rw [show IntKind.wrap .i64 (((2 : Nat) : Int) - 1) = 1 from rfl, wrap_ok (by omega) (by omega), htk, List.countP_append]
      simp [hkey]
      omega
     show uncV rec ((IntKind.wrap .i64 (((s.size + ((bl s).take k).countP isKey : Nat) : Int) + IntKind.wrap .i64 (((2 : Nat) : Int) - 1)), ()), ((true, ()), ((IntKind.wrap .i64 ((k : Int) + 1), ()), ()))) _ _
     rw [ew, ewk]
     refine hrec _ w1 ⟨k + 1, by omega, rfl, ?_, rfl, rfl⟩ ?_
     ·show true = _
      rw [htk, List.any_append]
      simp [hkey]
     ·show s.size - ((k + 1 : Nat) : Int).toNat < s.size - ((k : Nat) : Int).toNat
      simp only [Int.toNat_natCast]; omega
    ·refine T.blk.ldS hLc (ite_no rfl ?_)
     rw [ewk]
     refine hrec ((((s.size + ((bl s).take k).countP isKey : Nat) : Int), ()), ((((bl s).take k).any isKey, ()), ((((k + 1 : Nat) : Int), ()), ()))) w1 ⟨k + 1, by omega, ?_, ?_, rfl, rfl⟩ ?_
     ·rw [htk, List.countP_append]
      show ((s.size + ((bl s).take k).countP isKey : Nat) : Int) = _
      simp [hkey]
     ·rw [htk, List.any_append]
      show ((bl s).take k).any isKey = _
      simp [hkey]
     ·show s.size - ((k + 1 : Nat) : Int).toNat < s.size - ((k : Nat) : Int).toNat
      simp only [Int.toNat_natCast]; omega
   ·have hge : ¬ (k : Int) < (s.size : Int) := of_decide_eq_false hge
    rw [List.take_of_length_le (by omega), hql, hsl]
   ·have hge : ¬ (k : Int) < (s.size : Int) := of_decide_eq_false hge
    rw [List.take_of_length_le (by omega)]
 rintro n x w1 ⟨rfl, rfl, F1⟩
 refine ite_ok (fun h => ⟨?_, F1⟩) fun h => ?_
 ·have h : (bl s).any isKey = false := by rwa [Bool.not_eq_true'] at h
  rw [quote_none h, bs_bl]
 have T1 := T.fr F1
 obtain ⟨ti, z, hi, hz0, h1, h2, h3⟩ := rByte
 refine make_ok uBytes hi hz0 (by omega) (by omega) (by rw [h2]; omega) (by omega) fun w2 g hg hs2 B2 F2 => ?_
 rw [h3, h1, show (#[Value.int .u8 0] : Array Value) = Array.replicate 1 (.int .u8 0) from rfl, made_rep _ _ _ (by omega), Nat.mul_one, Int.toNat_natCast] at B2
 rw [Int.toNat_natCast]
 generalize hN : ((bl s).flatMap quoteB).length = N at *
 have hout : ∀ k, (((bl s).take k).flatMap quoteB).length ≤ N := fun k => by
  rw [← hN]
  conv => rhs; rw [← List.take_append_drop k (bl s), List.flatMap_append, List.length_append]
  omega
 have hgm : g ≠ m := by have := T1.blk.lt; omega
 refine join0_ok (fun w' => Blk w' g 5 (byteCells ((bl s).flatMap quoteB)) ∧ Fr noB w w') (fun kend hkend => ?_) ?_
 ·refine loop_ok (vs := [.one (.int .i64), .one (.int .i64)]) (fun xs w' => ∃ k : Nat, k ≤ s.size ∧ (show Int from xs.1.1) = (((((bl s).take k).flatMap quoteB).length : Nat) : Int) ∧ (show Int from xs.2.1.1) = (k : Int) ∧
    Blk w' g 5 (byteCells (((bl s).take k).flatMap quoteB) ++ List.replicate (N - (((bl s).take k).flatMap quoteB).length) (.int .u8 0)) ∧ Fr (oneB g) w2 w')
   (fun xs => s.size - (show Int from xs.2.1.1).toNat) ?_ (xs := (((0 : Int), ()), (((0 : Int), ()), ()))) ⟨0, by omega, rfl, rfl, B2, Fr.refl _ _⟩
  rintro rec ⟨⟨o, ⟨⟩⟩, ⟨⟨i, ⟨⟩⟩, ⟨⟩⟩⟩ w3 ⟨k, hk, ho, hi, B3, F3⟩ hrec
  change Int at o
  change Int at i
  change o = _ at ho
  change i = _ at hi
  subst ho
  subst hi
  have F13 : Fr noB w1 w3 := F2.then F3 fun y hy h => by unfold oneB at h; omega
  refine ite_ok (fun hlt => ?_) fun hge => hkend _ ⟨?_, F1.tr F13⟩
  ·have hlt : (k : Int) < (s.size : Int) := of_decide_eq_true hlt
   have hc := bl_at (s := s) (i := k) (by omega)
   have ewk : IntKind.wrap .i64 ((k : Int) + 1) = ((k + 1 : Nat) : Int) := by rw [wrap_ok (by omega) (by omega)]; omega
   have T3 := T1.fr F13
   unfold joinG
   refine chr_ok (by omega) (nn_ok ?_)
   generalize (bl s)[k]'(by rw [hsl]; omega) = c at *
   have htk : (bl s).take (k + 1) = (bl s).take k ++ [c] := by rw [List.take_add_one, hc]; rfl
   have hfm : ((bl s).take (k + 1)).flatMap quoteB = ((bl s).take k).flatMap quoteB ++ quoteB c := by rw [htk, List.flatMap_append]; simp
   have hle := hout (k + 1)
   rw [hfm, List.length_append] at hle
   have hbo : (byteCells (((bl s).take k).flatMap quoteB)).length = (((bl s).take k).flatMap quoteB).length := List.length_map _
   have next : ∀ {w' : World}, Blk w' g 5 (byteCells (((bl s).take (k + 1)).flatMap quoteB) ++ List.replicate (N - (((bl s).take (k + 1)).flatMap quoteB).length) (.int .u8 0)) → Fr (oneB g) w2 w' → uncV rec (((((((bl s).take (k + 1)).flatMap quoteB).length : Nat) : Int), ()), ((((k + 1 : Nat) : Int), ()), ())) _ w' := fun B F =>
    hrec _ _ ⟨k + 1, by omega, rfl, rfl, B, F⟩ (by show s.size - ((k + 1 : Nat) : Int).toNat < s.size - ((k : Nat) : Int).toNat; simp only [Int.toNat_natCast]; omega)
   rw [hfm] at next
   generalize ((bl s).take k).flatMap quoteB = O at *
   refine idxB_ok (i := c.toNat) c.toNat_lt ?_
   show ldG .slice ⟨m, 0 + c.toNat * 1, none⟩ _ _ _
   rw [Nat.zero_add, Nat.mul_one]
   rcases T3.at c with ⟨hkey, g', cap, hLc, hcells⟩ | ⟨hkey, hLc⟩
   ·have hq2 := quoteB_key hkey
    refine T3.blk.ldS hLc (ite_yes rfl (drew_ok fun w4 F4 z4 => assume_ok (by simp) ?_))
    refine reslice_ok (p := some ⟨g, 0, none⟩) (c := N) (l := ((O.length : Nat) : Int)) (h' := ((N : Nat) : Int)) (m := ((N : Nat) : Int)) (by omega) (by omega) (by omega) (by omega) (nn_ok ?_)
    have T4 := T3.fr F4
    have B4 := B3.fr F4 (fun h => h)
    refine idxB_ok (i := c.toNat) c.toNat_lt ?_
    show ldG .slice ⟨m, 0 + c.toNat * 1, none⟩ _ _ _
    rw [Nat.zero_add, Nat.mul_one]
    refine T4.blk.ldS hLc ?_
    have ep : (if ((N : Nat) : Int).toNat = ((O.length : Nat) : Int).toNat then some (⟨g, 0, none⟩ : Addr) else (some (⟨g, 0, none⟩ : Addr)).map (·.add (((O.length : Nat) : Int).toNat * 1))) = some ⟨g, O.length, none⟩ := by
     rw [Int.toNat_natCast, Int.toNat_natCast, if_neg (by omega), Nat.mul_one, Option.map_some, Addr.add_lit, Nat.zero_add]
    rw [ep, Int.toNat_natCast, Int.toNat_natCast]
    have hbq : (byteCells (quoteB c)).length = 2 := by rw [byteCells, List.length_map, hq2]
    refine copy_ok (sn := 2) (dn := N - O.length) (cs := byteCells (quoteB c)) uBytes (by kernel_rfl) B4 (by rw [hbq]; omega) (fun j v hj => ?_) (by rw [hbq, List.length_append, hbo, List.length_replicate]; omega) (fun v hv => by
     simp only [byteCells, List.mem_map] at hv
     obtain ⟨y, _, rfl⟩ := hv
     rfl) fun w5 B5 F5 z5 => ?_
    ·have hj2 : j < 2 := by have := (List.getElem?_eq_some_iff.1 hj).1; rw [hbq] at this; exact this
     show w4.cell? (Addr.add ⟨g', 0, none⟩ j) = some v
     rw [Addr.add_lit, Nat.zero_add]
     rw [byteCells, List.getElem?_map, Option.map_eq_some_iff] at hj
     obtain ⟨y, hy, rfl⟩ := hj
     have := F4.cell (hcells j hj2) (fun h => h)
     rw [List.getD_eq_getElem?_getD, hy] at this
     exact this
    ·rw [hbq] at B5 ⊢
     rw [← hbo, ← hbq, fill_row (by omega)] at B5
     have ew : IntKind.wrap .i64 (((O.length : Nat) : Int) + ((2 : Nat) : Int)) = (((O ++ quoteB c).length : Nat) : Int) := by rw [wrap_ok (by omega) (by omega), List.length_append, hq2]; omega
     rw [ewk]
     show uncV rec ((IntKind.wrap .i64 (((O.length : Nat) : Int) + ((2 : Nat) : Int)), ()), ((((k + 1 : Nat) : Int), ()), ())) _ _
     rw [ew]
     refine next ?_ ((F3.then F4 fun _ _ h => h.elim).sq F5)
     have e1 : byteCells (O ++ quoteB c) = byteCells O ++ byteCells (quoteB c) := List.map_append
     rw [e1, List.length_append, hq2]
     rw [hbq, Nat.sub_sub, hbo] at B5
     exact B5
   ·have hq1 := quoteB_plain hkey
    rw [hq1] at hle next
    simp only [List.length_singleton] at hle
    refine T3.blk.ldS hLc (ite_no rfl ?_)
    refine idxB_ok (n := N) (i := O.length) (by omega) ?_
    rw [Nat.zero_add, Nat.mul_one]
    refine B3.st rfl (by rw [List.length_append, hbo, List.length_replicate]; omega) fun w4 B4 F4 => ?_
    rw [← hbo, fill_cell (by omega)] at B4
    have ew : IntKind.wrap .i64 (((O.length : Nat) : Int) + 1) = (((O ++ [c]).length : Nat) : Int) := by rw [wrap_ok (by omega) (by omega), List.length_append]; simp
    rw [ewk, ew]
    refine next ?_ (F3.sq F4)
    have e1 : byteCells (O ++ [c]) = byteCells O ++ [.int .u8 ((c.toNat : Nat) : Int)] := List.map_append
    rw [e1, List.length_append, List.length_singleton]
    rw [hbo, Nat.sub_sub] at B4
    exact B4
  ·have hge : ¬ (k : Int) < (s.size : Int) := of_decide_eq_false hge
   rw [List.take_of_length_le (by omega), hN, Nat.sub_self, List.replicate_zero, List.append_nil] at B3
   exact B3
 ·rintro w3 ⟨B3, F3⟩
  have o3 : w3.ownsRow 0 5 1 (.slice (some ⟨g, 0, none⟩) N N) N (byteCells ((bl s).flatMap quoteB)) := ⟨by simp [byteCells, hN], .inr ⟨g, N, _, rfl, Nat.zero_le _, B3, Nat.le_refl _, by unfold maxLen; omega, by simp [byteCells, hN], by rw [Nat.mul_one, List.take_of_length_le (by simp [byteCells, hN])]⟩⟩
  exact back_ok (l := ⟨some ⟨g, 0, none⟩, N, N⟩) hN.symm o3 ⟨rfl, F3⟩
end
end Go.Proofs.YtngfnokbdcjoeaaGreatDoor
end
section
namespace Go.Lift
theorem callA_ok {P : Program} {R : Ending → World → Prop} {w : World} {f : FuncId} {args : Array Value} {A : Type} {v : A → Value} {Y : A → World → Prop} (hc : Calls P f args w fun e w' => ∃ a, e = .returned (v a) ∧ Y a w') (_ : ∀ a, CT.any.val (v a) = v a) {k : Value → G} (h : ∀ a w', Y a w' → k (v a) R w') : callG P f args [.one .any] k R w :=
 call_ok hc fun _ w' ⟨a, he, hy⟩ => ⟨((v a, ()), ()), he, h a w' hy⟩
end Go.Lift
namespace Go.Proofs.YtngfnokbdcjoeaaGreatDoor
open Go.Lift Go.Lex
section
variable {w : World}
theorem newRepl_ok {m7 : Nat} (B : Blk w m7 9 (oldnew.map Value.string)) : Calls Tryz.prog 152 #[.slice (some ⟨m7, 0, none⟩) 8 8] w fun e w' =>
  ∃ (b : Nat) (l : Sl), e = .returned (.pointer (some ⟨b, 0, none⟩)) ∧ Blk w' b 192 [.int .u32 0, .int .i32 0, .int .u32 0, .nilIface, .slice l.a l.n l.c] ∧ w'.ownsRow 0 9 1 (.slice l.a l.n l.c) 8 (oldnew.map Value.string) ∧ Fr noB w w' ∧ w.heap.size ≤ b := by
 refine c152 ⟨some ⟨m7, 0, none⟩, 8, 8⟩ ?_
 unfold t152 svZ nwZ jn0Z
 refine join_in (ite_no (show (((8 : Nat) : Int).tmod 2 == 1) = false by decide) ?_)
 obtain ⟨ti, z, hi, hz0, h1, h2, h3⟩ := rStr
 refine appendC_ok (base := w.heap.size) uStrs hi hz0 h1 h2 (by rw [h3]; rfl) (by omega) (s := ⟨none, 0, 0⟩) (n := 0) (xs := []) ⟨rfl, .inl ⟨rfl, rfl⟩⟩ (m := 8) (news := oldnew.map Value.string) rfl (B.held fun j v hj => by rw [Nat.zero_add]; exact hj)
  (fun u hu => by simp only [List.mem_map] at hu; obtain ⟨y, _, rfl⟩ := hu; rfl) (by unfold maxLen; omega) (by omega) (Nat.le_refl _) fun l2 w2 hown2 F2 => new_ok fun w3 b hb hs3 B3 F3 => ?_
 have F2' : Fr noB w w2 := F2.mono fun _ _ h => by cases h
 exact ⟨b, l2, rfl, B3, own_base (own_fr0 hown2 F3), F2'.tr F3, by have := F2.size; omega⟩
def BuiltQ (w0 : World) (b : Nat) (x : Int) (w' : World) : Prop := ∃ m L base, Tab base w' m kset L ∧ Blk w' b 192 [.int .u32 0, .int .i32 x, .int .u32 0, .iface 251 (.pointer (some ⟨m, 0, none⟩)), .slice none 0 0] ∧ m ≠ b ∧ Fr (oneB b) w0 w'
theorem buildOnce_ok {b : Nat} {l : Sl} {x : Int} (B : Blk w b 192 [.int .u32 0, .int .i32 x, .int .u32 0, .nilIface, .slice l.a l.n l.c]) (hown : w.ownsRow 0 9 1 (.slice l.a l.n l.c) 8 (oldnew.map Value.string)) :
  Calls Tryz.prog 177 #[.pointer (some ⟨b, 0, none⟩)] w fun e w' => e = .returned (.tuple #[]) ∧ BuiltQ w b x w' := by
 apply c177
 unfold t177 caZ
 refine callA_ok (v := fun m : Nat => Value.iface 251 (.pointer (some ⟨m, 0, none⟩))) (Y := fun m w' => ∃ L, Tab w.heap.size w' m kset L ∧ w.heap.size ≤ m ∧ Fr noB w w') ((build_ok B hown).mono fun e w' ⟨m, L, he, h⟩ => ⟨m, he, L, h⟩) (fun _ => rfl) fun m w1 ⟨L, T1, hm, F1⟩ => ?_
 have B1 := B.fr F1 (fun h => h)
 have hbw := B.lt
 have hmb : m ≠ b := by omega
 refine nn_ok (B1.st (o := 3) rfl (by simp) fun w2 B2 F2 => nn_ok (B2.st (o := 4) rfl (by simp) fun w3 B3 F3 => ⟨rfl, m, L, w.heap.size, ?_, B3, hmb, (F1.mono fun _ _ h => h.elim).sq (F2.sq F3)⟩))
 exact T1.frS (F2.sq F3) hmb (fun g cs fz hg => cell_of_u8 hg B1 (by decide)) fun l hl k hk e => own_ne hl B1 (by decide) k hk e.symm
end
end Go.Proofs.YtngfnokbdcjoeaaGreatDoor
end
