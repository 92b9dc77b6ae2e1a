/- The law behind: one part of its proof (joined by program out of my own texts). No condition. -/
import Derived.Test.YtngfnokbdcjoeaaGreatDoorVatAV
import Derived.Lib.ItoaLen
section
namespace Go.Proofs.YtngfnokbdcjoeaaGreatDoor
open Go.Lift Go.Lex
def Used (w0 : World) (b : Nat) (w' : World) : Prop := ∃ m L base, Tab base w' m kset L ∧ Blk w' b 192 [.int .u32 1, .int .i32 0, .int .u32 0, .iface 251 (.pointer (some ⟨m, 0, none⟩)), .slice none 0 0] ∧ m ≠ b ∧ Fr (oneB b) w0 w'
section
variable {w : World}
theorem do_ok {b : Nat} {l : Sl} (B : Blk w b 192 [.int .u32 0, .int .i32 0, .int .u32 0, .nilIface, .slice l.a l.n l.c]) (hown : w.ownsRow 0 9 1 (.slice l.a l.n l.c) 8 (oldnew.map Value.string)) :
  Calls Tryz.prog 176 #[.pointer (some ⟨b, 0, none⟩), .func (.func 177) #[.pointer (some ⟨b, 0, none⟩)] #[]] w fun e w' => e = .returned (.tuple #[]) ∧ Used w b w' := by
 apply c176
 unfold t176 ca0Z caBZ jn0Z
 refine nn_ok (callB_ok (b := false) (Y := fun w' => w' = w) (load_ok ⟨b, 0, none⟩ 0 w (B.cell rfl)) fun w1 hw => join_in (ite_yes rfl ?_))
 subst hw
 have B1 := B.set 1 (.int .i32 1)
 have F1 := fr_setCell w1 ⟨b, 1, none⟩ (.int .i32 1)
 have hown1 := own_fr hown F1 fun k hk e => own_ne hown B (by decide) k hk e.symm
 refine callU_ok (Y := Used w1 b) ((slow_ok (Q := BuiltQ (w1.setCell ⟨b, 1, none⟩ (.int .i32 1)) b 1) b 0 w1 (B.cell rfl) (B.cell rfl) (B.frozen _) (buildOnce_ok B1 hown1) fun w' ⟨m, L, base, T, B', hmb, F⟩ => ⟨B'.cell rfl, B'.cell rfl, B'.frozen _, B'.frozen _⟩).mono ?_) fun w' h => ⟨rfl, h⟩
 rintro e w' ⟨rfl, w2, ⟨m, L, base, T, B', hmb, F⟩, rfl⟩
 have Fd := fr_drew w2
 have B3 := B'.fr Fd (fun h => h)
 have B4 := B3.set 0 (.int .u32 1)
 have F4 := fr_setCell w2.drew ⟨b, 0, none⟩ (.int .u32 1)
 have B5 := B4.set 1 (.int .i32 0)
 have F5 := fr_setCell (w2.drew.setCell ⟨b, 0, none⟩ (.int .u32 1)) ⟨b, 1, none⟩ (.int .i32 0)
 refine ⟨rfl, m, L, base, ?_, B5, hmb, ((((F1 : Fr (oneB b) _ _).sq F).sq (Fd.mono fun _ _ h => h.elim)).sq F4).sq F5⟩
 exact (T.fr Fd).frS (Fr.sq (S := oneB b) F4 F5) hmb (fun g cs fz hg => cell_of_u8 hg B3 (by decide)) fun l hl k hk e => own_ne hl B3 (by decide) k hk e.symm
set_option maxRecDepth 100000 in
set_option maxHeartbeats 1600000 in
theorem replace_ok {b : Nat} {l : Sl} (B : Blk w b 192 [.int .u32 0, .int .i32 0, .int .u32 0, .nilIface, .slice l.a l.n l.c]) (hown : w.ownsRow 0 9 1 (.slice l.a l.n l.c) 8 (oldnew.map Value.string)) (s : ByteArray) (hs : s.size ≤ 140737488351232) :
  Calls Tryz.prog 153 #[.pointer (some ⟨b, 0, none⟩), .string s] w fun e w' => e = .returned (.string (bs ((bl s).flatMap quoteB))) ∧ Fr (oneB b) w w' := by
 have hmf : ∀ (fn : Fn) (first cap : Array Value) (w : World), (Instr.makeFunc fn first cap).run Tryz.prog w = .ok (.func fn first cap) w := fun _ _ _ _ => rfl
 have hdo := do_ok B hown
 have hme : ∀ (n : Nat) (a : Addr) (w : World), (method (n + 1) 251 (.pointer (some a)) "Replace").run Tryz.prog w = .ok (315, .pointer (some a)) w := fun _ _ _ => by kernel_rfl
 go_enter Tryz.func153, Tryz.ntmps153
 go_wp2_with (go_at_call 176; refine hdo.mono ?_; rintro e w1 ⟨rfl, m, L, base, T, B1, hmb, F1⟩; have c3 : w1.cell? ⟨b, 1 + 2, none⟩ = _ := B1.cell (o := 3) rfl; have c3' : w1.cell? ⟨b, 3, none⟩ = _ := B1.cell (o := 3) rfl)
 refine (rep_ok T s hs).mono ?_
 rintro e w2 ⟨rfl, F2⟩
 go_wp2
 go_ret
 exact ⟨rfl, F1.then F2 fun _ _ h => h.elim⟩
end
end Go.Proofs.YtngfnokbdcjoeaaGreatDoor
end
section
namespace Go.Proofs.YtngfnokbdcjoeaaGreatDoor
open Go.Lift Go.Lex
section
variable {w : World}
theorem shown_ok (k : Int) (t : ByteArray) (x : Int) (ht : t.size ≤ 140737488351232) : Calls Tryz.prog 123 #[.agg #[.int .i64 k, .string t, .int .i64 x]] w fun e w' => e = .returned (.string (bs (Lex.written k (bl t)))) ∧ Fr noB w w' := by
 have htl := bl_length t
 have hql := quote_len (bl t)
 have hcp : (bl t).countP isKey ≤ (bl t).length := List.countP_le_length
 apply c123
 unfold t123 ivZ tvZ ldIZ ldSZ nwZ caSZ caZ
 refine new_ok fun w1 m3 hm3 hs1 B1 F1 => B1.ld (c := .int .i64) (x := k) (o := 0) rfl (ite_ok (fun h => B1.ld (c := .str) (x := t) (o := 1) rfl ⟨?_, F1⟩) fun h => ?_)
 ·have h : ¬ k = 4 := by simpa using h
  unfold Lex.written
  rw [if_neg h, bs_bl]
 have h : k = 4 := by simpa using h
 refine drew_ok fun w2 F2 z2 => (B1.fr F2 (fun h => h)).ld (c := .str) (x := t) (o := 1) rfl (new_ok fun w3 m7 hm7 hs3 B7 F3 => ?_)
 have B13 := (B1.fr F2 (fun h => h)).fr F3 (fun h => h)
 refine keep_cons (B13.held1 (o := 1) rfl) (keep_nil (call_ok (newRepl_ok (m7 := m7) B7) ?_))
 rintro _ w4 ⟨b, l, rfl, B4, hown, F4, hb⟩
 refine ⟨((some ⟨b, 0, none⟩, ()), ()), rfl, ?_⟩
 have B14 := B13.fr F4 (fun h => h)
 refine keep_cons (B14.held1 (o := 1) rfl) (keep_nil (callS_ok (replace_ok B4 hown t ht) fun w5 F5 => ?_))
 have hrs := bs_size ((bl t).flatMap quoteB)
 refine cat_ok (by rw [hrs]; show 1 + _ ≤ _; omega) (cat_ok (by rw [ByteArray.size_append, hrs]; show 1 + _ + 1 ≤ _; omega) ⟨?_, ?_⟩)
 ·unfold Lex.written
  rw [if_pos h]
  congr 2
 ·refine (((F1.tr F2).tr F3).tr F4).then F5 fun y hy h => ?_
  have := F1.size
  have := F2.size
  have := F3.size
  unfold oneB at h
  omega
end
end Go.Proofs.YtngfnokbdcjoeaaGreatDoor
end
section
namespace Go.Lift
def RdT (w : World) (s : Sl) (l : List (Int × ByteArray × Int)) : Prop := s.n = l.length ∧ ∀ k x, l[k]? = some x → ∃ g o, s.a = some ⟨g, o, none⟩ ∧
 w.cell? ⟨g, o + k * 3, none⟩ = some (.int .i64 x.1) ∧ w.cell? ⟨g, o + k * 3 + 1, none⟩ = some (.string x.2.1) ∧ w.cell? ⟨g, o + k * 3 + 2, none⟩ = some (.int .i64 x.2.2)
theorem RdT.fr {w w' : World} {s : Sl} {l : List (Int × ByteArray × Int)} (h : RdT w s l) (F : Fr noB w w') : RdT w' s l := ⟨h.1, fun k x hx => by
 obtain ⟨g, o, h1, h2, h3, h4⟩ := h.2 k x hx
 exact ⟨g, o, h1, F.cell h2 (fun h => h), F.cell h3 (fun h => h), F.cell h4 (fun h => h)⟩⟩
end Go.Lift
namespace Go.Proofs.YtngfnokbdcjoeaaGreatDoor
open Go.Lift Go.Lex
section
variable {w : World}
set_option maxHeartbeats 2000000 in
theorem Show_ok {l0 : Sl} {toks : List (Int × ByteArray × Int)} (hR : RdT w l0 toks) (hg : Glob w) (h20 : ∀ x ∈ toks, x.2.1.size ≤ 140737488351232) (h4 : toks.length ≤ 4000) :
  Calls Tryz.prog 89 #[.slice l0.a l0.n l0.c] w fun e w' => (match showF [] (toks.map fun x => (x.1, bl x.2.1)) with
   | some outs => e = .returned (.tuple #[.string (bs (Lib.join outs [32])), .int .i64 0])
   | none => e = .returned (.tuple #[.string ⟨#[]⟩, .int .i64 60])) ∧ Fr noB w w' := by
 have hn := hR.1
 apply c89
 unfold t89 wrZ ivZ tvZ svZ ldIZ ldSZ nwZ caSZ caZ jnBZ jnLZ lpLIZ ixZ
 have bad : ∀ {w' : World}, showF [] (toks.map fun x => (x.1, bl x.2.1)) = none → Fr noB w w' → (match showF [] (toks.map fun x => (x.1, bl x.2.1)) with
   | some outs => (Ending.returned (.tuple #[.string ⟨#[]⟩, .int .i64 60])) = .returned (.tuple #[.string (bs (Lib.join outs [32])), .int .i64 0])
   | none => (Ending.returned (.tuple #[.string ⟨#[]⟩, .int .i64 60])) = .returned (.tuple #[.string ⟨#[]⟩, .int .i64 60])) ∧ Fr noB w w' := fun h F => by rw [h]; exact ⟨rfl, F⟩
 refine join1_ok (c := .slice) (fun (l : Sl) w' => ∃ outs, showF [] (toks.map fun x => (x.1, bl x.2.1)) = some outs ∧ w'.ownsRow w.heap.size 9 1 (.slice l.a l.n l.c) outs.length (outs.map fun o => Value.string (bs o)) ∧ outs.length ≤ 4000 ∧ (∀ o ∈ outs, o.length ≤ 4096) ∧ Fr noB w w') (fun kend hkend => ?_) ?_
 ·refine loop_ok (vs := [.one .slice, .one (.int .i64)]) (fun xs w' => ∃ (k : Nat) (outs : List (List UInt8)), k ≤ toks.length ∧ (show Int from xs.2.1.1) = (k : Int) ∧ w'.ownsRow w.heap.size 9 1 (.slice (show Sl from xs.1.1).a (show Sl from xs.1.1).n (show Sl from xs.1.1).c) outs.length (outs.map fun o => Value.string (bs o)) ∧
    outs.length ≤ k ∧ (∀ o ∈ outs, o.length ≤ 4096) ∧ showF [] (toks.map fun x => (x.1, bl x.2.1)) = showF outs ((toks.drop k).map fun x => (x.1, bl x.2.1)) ∧ Fr noB w w')
   (fun xs => toks.length - (show Int from xs.2.1.1).toNat) ?_ (xs := (((⟨none, 0, 0⟩ : Sl), ()), (((0 : Int), ()), ()))) ⟨0, [], by omega, rfl, ⟨rfl, .inl ⟨rfl, rfl⟩⟩, Nat.le_refl _, by simp, rfl, Fr.refl _ _⟩
  rintro rec ⟨⟨l3, ⟨⟩⟩, ⟨⟨n, ⟨⟩⟩, ⟨⟩⟩⟩ w1 ⟨k, outs, hk, hi, hown, hol, ho4, hq, F1⟩ hrec
  change Sl at l3
  change Int at n
  change n = _ at hi
  subst hi
  change w1.ownsRow _ _ _ (.slice l3.a l3.n l3.c) _ _ at hown
  refine ite_ok (fun hlt => ?_) fun hge => hkend _ _ ⟨outs, ?_, hown, by omega, ho4, F1⟩
  rotate_left
  ·have hge : ¬ (k : Int) < (l0.n : Int) := of_decide_eq_false hge
   rw [hq, List.drop_of_length_le (by omega)]
   rfl
  have hlt : (k : Int) < (l0.n : Int) := of_decide_eq_true hlt
  have hlt : k < toks.length := by omega
  obtain ⟨⟨kd, tx, at'⟩, hx⟩ : ∃ x, toks[k]? = some x := ⟨_, List.getElem?_eq_getElem hlt⟩
  have hdrop : toks.drop k = (kd, tx, at') :: toks.drop (k + 1) := by
   rw [List.drop_eq_getElem_cons hlt]
   congr 1
   rw [List.getElem?_eq_getElem hlt] at hx
   exact Option.some.inj hx
  rw [hdrop, List.map_cons] at hq
  have htx : tx.size ≤ 140737488351232 := h20 _ (List.mem_of_getElem? hx)
  obtain ⟨g, o, ha, c0, c1, c2⟩ := (hR.fr F1).2 k _ hx
  have htl := bl_length tx
  have ewk : IntKind.wrap .i64 ((k : Int) + 1) = ((k + 1 : Nat) : Int) := by rw [wrap_ok (by omega) (by omega)]; omega
  -- one round more
  have next : ∀ {l : Sl} {outs' : List (List UInt8)} {w' : World}, w'.ownsRow w.heap.size 9 1 (.slice l.a l.n l.c) outs'.length (outs'.map fun o => Value.string (bs o)) → outs'.length ≤ k + 1 → (∀ o ∈ outs', o.length ≤ 4096) →
    showF [] (toks.map fun x => (x.1, bl x.2.1)) = showF outs' ((toks.drop (k + 1)).map fun x => (x.1, bl x.2.1)) → Fr noB w w' → uncV rec ((l, ()), ((IntKind.wrap .i64 ((k : Int) + 1), ()), ())) _ w' := fun h1 h2 h3 h4' h5 => by
   rw [ewk]
   exact hrec _ _ ⟨k + 1, _, by omega, rfl, h1, h2, h3, h4', h5⟩ (by show toks.length - ((k + 1 : Nat) : Int).toNat < toks.length - ((k : Nat) : Int).toNat; simp only [Int.toNat_natCast]; omega)
  unfold joinG
  rw [ha]
  refine idx_ok (n := l0.n) (i := (k : Int)) (by omega) (by omega) ?_
  rw [Int.toNat_natCast]
  show ldG _ (Addr.add (Addr.add ⟨g, o, none⟩ (k * 3)) 0) _ _ _
  simp only [Addr.add_lit, Nat.add_zero]
  refine ld_ok (c := .int .i64) c0 (ld_ok (c := .str) c1 (ld_ok (c := .int .i64) c2 (new_ok fun w2 m10 hm10 hs2 B2 F2 => ?_)))
  refine B2.st (o := 0) rfl (by simp) fun w3 B3 F3 => B3.st (o := 1) rfl (by simp) fun w4 B4 F4 => B4.st (o := 2) rfl (by simp) fun w5 B5 F5 => ?_
  have F15 : Fr noB w1 w5 := F2.then ((F3.sq F4).sq F5) fun y hy h => by unfold oneB at h; omega
  have hown5 := own_fr0 hown F15
  have hz : (bl tx == []) = decide (bl tx = []) := by cases bl tx <;> rfl
  refine B5.ld (c := .int .i64) (x := kd) (o := 0) rfl ?_
  -- is the token the end?
  by_cases hskip : kd = 0 ∧ bl tx = []
  ·refine ite_yes (by rw [hskip.1]; rfl) (B5.ld (c := .str) (x := tx) (o := 1) rfl (ite_yes ?_ (next hown5 (by omega) ho4 ?_ (F1.tr F15))))
   ·rw [eq_bl, hskip.2]; rfl
   ·rw [hq]
    conv => lhs; unfold showF
    rw [if_pos hskip]
  have hq2 : showF [] (toks.map fun x => (x.1, bl x.2.1)) = match show1 kd (bl tx) with
    | some s => showF (outs ++ [s]) ((toks.drop (k + 1)).map fun x => (x.1, bl x.2.1))
    | none => none := by
   rw [hq]
   conv => lhs; unfold showF
   rw [if_neg hskip]
   cases show1 kd (bl tx) <;> rfl
  have hbad : show1 kd (bl tx) = none → showF [] (toks.map fun x => (x.1, bl x.2.1)) = none := fun h => by rw [hq2, h]
  have hpass : ∀ {K : Bool → G} {R : Ending → World → Prop}, K false R w5 → iteG (kd == 0) (ldG CT.str ⟨m10, 1, none⟩ fun s13 => K (ByteArray.toList s13 == ByteArray.toList (ByteArray.mk #[]))) (K false) R w5 := by
   intro K R hK
   by_cases h0 : kd = 0
   ·refine ite_yes (by rw [h0]; rfl) (B5.ld (c := .str) (x := tx) (o := 1) rfl ?_)
    have : (ByteArray.toList tx == ByteArray.toList (ByteArray.mk #[])) = false := by
     rw [eq_bl, bl_empty, hz]
     exact decide_eq_false fun h => hskip ⟨h0, h⟩
    rw [this]
    exact hK
   ·exact ite_no (beq_eq_false_iff_ne.2 h0) hK
  refine hpass (K := fun b => iteG b _ _) (ite_no rfl ?_)
  refine B5.ld (c := .int .i64) (x := kd) (o := 0) rfl (B5.ld (c := .str) (x := tx) (o := 1) rfl (B5.ld (c := .int .i64) (x := at') (o := 2) rfl ?_))
  refine callS_ok (shown_ok kd tx at' (by omega)) fun w6 F6 => ?_
  have hSl := written_len kd (bl tx)
  generalize hS : Lex.written kd (bl tx) = S at *
  have F16 := F15.tr F6
  have B6 := B5.fr F6 (fun h => h)
  have hscan := Scan_ok (bs S) (hg.fr (F1.tr F16))
  unfold ScanP at hscan
  rw [bl_bs] at hscan
  cases hsc : scan S with
  | error f =>
   rw [hsc] at hscan
   refine callLF_ok (x := (f.err : Int)) (y := (f.at' : Int)) (Y := fun _ w' => Fr noB w6 w') (hscan.mono fun en w' h => ⟨⟨none, 0, 0⟩, h.1, h.2⟩) fun sl w7 F7 => new_ok fun w8 m22 hm22 hs8 B8 F8 => ?_
   refine B8.st (o := 0) rfl (by simp) fun w9 B9 F9 => B9.st (o := 1) rfl (by simp) fun w10 B10 F10 => drew_ok fun w11 F11 z11 => (B10.fr F11 (fun h => h)).ld (c := .int .i64) (x := (f.err : Int)) (o := 0) rfl (ite_yes ?_ ?_)
   ·have := scan_err hsc
    rw [bne_iff_ne]
    omega
   ·refine bad (hbad ?_) (F1.tr ((F16.tr F7).then ((F8.mono fun _ _ h => h.elim).sq (((F9.sq F10).mono fun y _ h => h).sq (F11.mono fun _ _ h => h.elim))) fun y hy h => by have := F16.size; have := F7.size; unfold oneB at h; omega))
    unfold show1
    rw [hS, hsc]
  | ok back =>
   have hS4 : S.length ≤ 4096 := by
    rcases Nat.lt_or_ge 4096 S.length with h' | h'
    ·unfold scan at hsc
     rw [if_pos h'] at hsc
     cases hsc
    ·exact h'
   rw [hsc] at hscan
   refine callLF_ok (x := 0) (y := 0) (Y := fun sl w' => w'.ownsRow w6.heap.size 96 3 (.slice sl.a sl.n sl.c) back.length (back.flatMap tokCells) ∧ Fr noB w6 w') (hscan.mono fun en w' ⟨⟨l, h1, h2⟩, h3⟩ => ⟨l, h1, h2, h3⟩) fun l19 w7 ⟨hback, F7⟩ => new_ok fun w8 m22 hm22 hs8 B8 F8 => ?_
   have hbn : l19.n = back.length := by
    obtain ⟨s', hs', hn', _⟩ := slice_of_own hback
    cases l19; cases s'
    simp only [Value.slice.injEq] at hs'
    obtain ⟨rfl, rfl, rfl⟩ := hs'
    exact hn'
   refine B8.st (o := 0) rfl (by simp) fun w9 B9 F9 => B9.st (o := 1) rfl (by simp) fun w10 B10 F10 => drew_ok fun w11 F11 z11 => ?_
   have F7b : Fr noB w6 w11 := F7.then ((F8.mono fun _ _ h => h.elim).sq (((F9.sq F10).mono fun y _ h => h).sq (F11.mono fun _ _ h => h.elim))) fun y hy h => by have := F7.size; unfold oneB at h; omega
   have F711 : Fr noB w7 w11 := (F8.then (F9.sq F10) fun y hy h => by unfold oneB at h; omega).tr F11
   have Fall : Fr noB w w11 := F1.tr (F16.tr F7b)
   have B5' := B5.fr (F6.tr F7b) (fun h => h)
   have hback11 := own_fr0 hback F711
   refine (B10.fr F11 (fun h => h)).ld (c := .int .i64) (x := 0) (o := 0) rfl (ite_no rfl ?_)
   rw [hbn]
   refine ite_ok (fun h2 => bad (hbad ?_) Fall) fun h2 => ?_
   ·have h2 : ¬ (back.length : Int) = 2 := by simpa using h2
    exact show1_not (by rw [hS]; exact hsc) (by omega)
   have h2 : (back.length : Int) = 2 := by simpa using h2
   match back, h2 with
   | [a, z], _ =>
    have hsh := show1_two (k := kd) (t := bl tx) (a := a) (z := z) (by rw [hS]; exact hsc)
    rw [hS] at hsh
    obtain ⟨g7, hg7, hcell⟩ : ∃ g, l19.a = some ⟨g, 0, none⟩ ∧ ∀ j v, ([a, z].flatMap tokCells)[j]? = some v → w11.cell? ⟨g, j, none⟩ = some v := by
     rcases hback11.2 with ⟨h, h0⟩ | ⟨g, cap, cur, h, _, _⟩
     ·cases h0
     ·simp only [Value.slice.injEq] at h
      refine ⟨g, h.1, fun j v hj => ?_⟩
      have := hback11.cells (g := g) (by rw [h.1]; rfl) j v hj
      rw [Addr.add_lit, Nat.zero_add] at this
      exact this
    rw [hg7]
    have hSs := bs_size S
    refine idxB_ok (i := 0) (by simp) (ld_ok (c := .int .i64) (hcell 0 _ rfl) (B5'.ld (c := .int .i64) (x := kd) (o := 0) rfl (ite_ok (fun h => bad (hbad ?_) Fall) fun hk1 => ?_)))
    ·have h : ¬ (a.kind : Int) = kd := by simpa using h
     rw [hsh, if_neg fun hh => h hh.1]
    have hk1 : (a.kind : Int) = kd := by simpa using hk1
    refine idxB_ok (i := 0) (by simp) (ld_ok (c := .str) (hcell 1 _ rfl) (B5'.ld (c := .str) (x := tx) (o := 1) rfl ?_))
    rw [eq_bl, bl_bs]
    refine ite_ok (fun h => bad (hbad ?_) Fall) fun ht1 => ?_
    ·have h : ¬ a.text = bl tx := by simpa using h
     rw [hsh, if_neg fun hh => h hh.2.1]
    have ht1 : a.text = bl tx := by simpa using ht1
    refine idxB_ok (i := 0) (by simp) (ld_ok (c := .int .i64) (hcell 2 _ rfl) (ite_ok (fun h => bad (hbad ?_) Fall) fun ha1 => ?_))
    ·have h : ¬ (a.at' : Int) = 0 := by simpa using h
     rw [hsh, if_neg fun hh => h (by rw [hh.2.2.1]; rfl)]
    have ha1 : (a.at' : Int) = 0 := by simpa using ha1
    refine ite_ok (fun h => bad (hbad ?_) Fall) fun hs1 => ?_
    ·have h : ((bs S).size : Int) = 0 := by simpa using h
     have : S = [] := List.eq_nil_of_length_eq_zero (by omega)
     rw [hsh, if_neg fun hh => hh.2.2.2.1 this]
    have hs1 : ¬ ((bs S).size : Int) = 0 := by simpa using hs1
    have hS0 : S ≠ [] := by rintro rfl; exact hs1 rfl
    -- the last question
    have hpass2 : ∀ {K : Bool → G} {R : Ending → World → Prop}, ((kd ≠ 4 → a.text = S) → K false R w11) → (¬ (kd ≠ 4 → a.text = S) → K true R w11) →
      ldG (CT.int IntKind.i64) ⟨m10, 0, none⟩ (fun (n35 : Int) => iteG (n35 != 4) (idxG (some ⟨g7, 0, none⟩) [a, z].length 0 3 fun a36 => ldG CT.str (Addr.add a36 1) fun (s37 : ByteArray) => K (!ByteArray.toList s37 == ByteArray.toList (bs S))) (K false)) R w11 := by
     intro K R h1 h2
     refine B5'.ld (c := .int .i64) (x := kd) (o := 0) rfl (ite_ok (fun h => ?_) fun h => h1 fun h4 => ?_)
     ·have h : ¬ kd = 4 := by simpa using h
      refine idxB_ok (i := 0) (by simp) (ld_ok (c := .str) (hcell 1 _ rfl) ?_)
      rw [eq_bl, bl_bs, bl_bs]
      by_cases hh : a.text = S
      ·rw [hh]
       have : (!(S == S)) = false := by simp
       rw [this]
       exact h1 fun _ => hh
      ·have : (!(a.text == S)) = true := by simpa using hh
       rw [this]
       exact h2 fun h' => hh (h' h)
     ·have h : kd = 4 := by simpa using h
      exact absurd h h4
    refine hpass2 (K := fun b => iteG b _ _) (fun htx => ite_no rfl ?_) fun hno => ite_yes rfl (bad (hbad ?_) Fall)
    ·have hq3 : showF [] (toks.map fun x => (x.1, bl x.2.1)) = showF (outs ++ [S]) ((toks.drop (k + 1)).map fun x => (x.1, bl x.2.1)) := by
      rw [hq2, hsh, if_pos ⟨hk1, ht1, by omega, hS0, htx⟩]
     refine new_ok fun w12 m39 hm39 hs12 B12 F12 => ?_
     obtain ⟨ti, zz, hi, hz0, e1, e2, e3⟩ := rStr
     have hown12 := own_fr0 (own_fr0 (own_fr0 hown5 F6) F7b) F12
     refine appendC_ok uStrs hi hz0 e1 e2 (by rw [e3]; rfl) (by omega) (s := l3) hown12 (m := 1) (news := [.string (bs S)]) rfl (B12.held fun j v hj => by rw [Nat.zero_add]; exact hj) (fun u hu => by rw [List.mem_singleton.1 hu]; rfl)
      (by unfold maxLen; omega) (by omega) (by have := (Fall.tr F12).size; omega) fun l40 w13 hown13 F13 => ?_
     refine next (outs' := outs ++ [S]) (by rw [List.length_append, List.map_append]; exact hown13) (by rw [List.length_append, List.length_singleton]; omega) (fun y hy => ?_) hq3 ((Fall.tr F12).then F13 fun y hy h => by have := (hown12.lt y h).1; omega)
     rcases List.mem_append.1 hy with hy | hy
     ·exact ho4 y hy
     ·rw [List.mem_singleton.1 hy]
      omega
    ·rw [hsh, if_neg fun hh => hno hh.2.2.2.2]
 rintro l w1 ⟨outs, hq, hown, hol, ho4, F1⟩
 rw [hq]
 obtain ⟨s', hs', hn', _⟩ := slice_of_own hown
 have hln : l.n = outs.length := by
  cases l; cases s'
  simp only [Value.slice.injEq] at hs'
  obtain ⟨rfl, rfl, rfl⟩ := hs'
  exact hn'
 have hemp : outs = [] → callG Tryz.prog 65 #[.slice l.a l.n l.c, .string (bs [32])] [.one .str] (fun (x : ByteArray) => retG (.tuple #[.string x, .int .i64 0])) (fun e w' => (e = .returned (.tuple #[.string (bs (Lib.join outs [32])), .int .i64 0])) ∧ Fr noB w w') w1 := by
  rintro rfl
  rw [hln]
  refine callS_ok (s := ⟨#[]⟩) (Y := fun w' => w' = w1) (Tryz.strings_Join_none l.a l.c (bs [32]) w1) fun w2 hw => ⟨rfl, ?_⟩
  rw [hw]
  exact F1
 rcases hown.2 with ⟨_, h0⟩ | ⟨g, cap, cur, h, _, hg1, hcap, _⟩
 ·exact hemp (List.eq_nil_of_length_eq_zero h0)
 ·simp only [Value.slice.injEq] at h
  have hmap : (outs.map bs).map (fun x => x.data.toList) = outs := by
   rw [List.map_map]
   conv => rhs; rw [← List.map_id outs]
   exact List.map_congr_left fun x _ => bl_bs x
  have hj := Tryz.strings_Join g 0 cap (outs.map bs) (bs [32]) w1 (fun j x hx => by
   rw [List.getElem?_map, Option.map_eq_some_iff] at hx
   obtain ⟨y, hy, rfl⟩ := hx
   have := hown.cells (g := g) (by rw [h.1]; rfl) j (.string (bs y)) (by rw [List.getElem?_map, hy]; rfl)
   rw [Addr.add_lit] at this
   exact this) (Array.getElem?_eq_some_iff.1 hg1).1 (by rw [List.length_map]; omega) (by rw [List.length_map]; exact hcap) (by rw [hmap]; exact Nat.le_trans (join_le hol fun o ho => Nat.le_trans (ho4 o ho) (by omega)) (by omega))
  rw [hmap, List.length_map] at hj
  rw [h.1, h.2.1, h.2.2]
  exact callS_ok (s := bs (Lib.join outs [32])) (Y := fun w' => Fr noB w1 w') (hj.mono fun e w' ⟨h1, h2⟩ => ⟨h1, fr_below h2⟩) fun w2 F2 => ⟨rfl, F1.tr F2⟩
end
end Go.Proofs.YtngfnokbdcjoeaaGreatDoor
end
section
namespace Go.Lift
section
variable {R : Ending → World → Prop} {w : World} {base : Nat} {e : TypeId} {n : Nat} {s : Sl} {xs : List Value}
theorem own_place (h : w.ownsRow base e 1 (.slice s.a s.n s.c) n xs) {i : Nat} (hi : i < n) : s.n = n ∧ ∃ g cur, s.a = some ⟨g, 0, none⟩ ∧ base ≤ g ∧ Blk w g e cur ∧ n ≤ s.c ∧ cur.length = s.c ∧ cur.take n = xs ∧ s.c ≤ maxLen := by
 rcases h.2 with ⟨_, h0⟩ | ⟨g, cap, cur, hv, hb, hg, hnc, hcm, hsz, htk⟩
 ·omega
 ·simp only [Value.slice.injEq] at hv
  obtain ⟨e1, e2, e3⟩ := hv
  refine ⟨e2, g, cur.toList, e1, hb, hg, by omega, ?_, ?_, by omega⟩
  ·simp only [Nat.mul_one] at hsz
   rw [Array.length_toList]
   omega
  ·rw [Nat.mul_one] at htk
   exact htk
theorem own_get (h : w.ownsRow base e 1 (.slice s.a s.n s.c) n xs) {i : Nat} {x : ByteArray} (hx : xs[i]? = some (.string x)) {K : ByteArray → G} (hk : K x R w) : idxG s.a s.n (i : Int) 1 (fun (a : Addr) => ldG .str a K) R w := by
 have hl := h.1
 have hi : i < n := by have := (List.getElem?_eq_some_iff.1 hx).1; omega
 obtain ⟨hn, g, cur, ha, _, B, _, _, htk, _⟩ := own_place h hi
 rw [ha]
 refine idxB_ok (n := s.n) (i := i) (by omega) (B.ld (c := .str) (x := x) (o := 0 + i * 1) ?_ hk)
 rw [← htk, List.getElem?_take, if_pos hi] at hx
 rw [Nat.zero_add, Nat.mul_one]
 exact hx
theorem own_put (h : w.ownsRow base e 1 (.slice s.a s.n s.c) n xs) {i : Nat} (hi : i < n) {v : Value} (h1 : v.oneCell' = true) {k : G}
  (hk : ∀ w', w'.ownsRow base e 1 (.slice s.a s.n s.c) n (xs.set i v) → Fr (fun b => base ≤ b) w w' → w'.heap.size = w.heap.size → k R w') : idxG s.a s.n (i : Int) 1 (fun (a : Addr) => stG a v k) R w := by
 have hl := h.1
 obtain ⟨hn, g, cur, ha, hb, B, hnc, hcl, htk, hcm⟩ := own_place h hi
 rw [ha]
 refine idxB_ok (n := s.n) (i := i) (by omega) ?_
 rw [Nat.zero_add, Nat.mul_one]
 have hsz : (w.setCell ⟨g, i, none⟩ v).heap.size = w.heap.size := by simp
 refine ⟨h1, ⟨_, B.cell (List.getElem?_eq_getElem (by omega))⟩, B.frozen i, hk _ ⟨by simpa using hl, .inr ⟨g, s.c, (cur.set i v).toArray, by rw [ha, hn], hb, B.set i v, hnc, hcm, by simpa using hcl, ?_⟩⟩ ?_ hsz⟩
 ·rw [Nat.mul_one, List.toList_toArray, List.take_set, htk]
 ·exact (fr_setCell w ⟨g, i, none⟩ v).mono fun x _ hx => by unfold oneB at hx; subst hx; exact hb
end
end Go.Lift
namespace Go.Shp
open Go.Lex
theorem show1_len {t q : B} (h : show1 4 t = some q) : q = quote t ∧ (quote t).length ≤ 4096 := by
 unfold show1 at h
 have hw : Go.Lex.written 4 t = quote t := rfl
 rw [hw] at h
 have hl : (quote t).length ≤ 4096 := by
  rcases Nat.lt_or_ge 4096 (quote t).length with h' | h'
  ·unfold scan at h
   rw [if_pos h'] at h
   cases h
  ·exact h'
 refine ⟨?_, hl⟩
 split at h
 ·split at h
  ·exact (Option.some.inj h).symm
  ·cases h
 ·cases h
theorem itoa_len {z : Int} (h1 : -9223372036854775808 ≤ z) (h2 : z ≤ 9223372036854775807) : (Lib.itoa z).length ≤ 21 := by
 unfold Lib.itoa
 split
 ·rw [List.length_cons, Lib.decDigits_length]
  have := Lib.nDigits_le20 z.natAbs (by omega)
  omega
 ·rw [Lib.decDigits_length]
  have := Lib.nDigits_le20 z.toNat (by omega)
  omega
theorem join_len {l : List B} {sep : B} {m : Nat} (h : (l.map List.length).sum ≤ m) : (Lib.join l sep).length ≤ m + sep.length * l.length := by
 have tail : ∀ (l : List B), (Lib.joinTail sep l).length = (l.map List.length).sum + sep.length * l.length := by
  intro l
  induction l with
  | nil => rfl
  | cons x r ih =>
   rw [show Lib.joinTail sep (x :: r) = sep ++ x ++ Lib.joinTail sep r by simp [Lib.joinTail], List.length_append, List.length_append, ih, List.map_cons, List.sum_cons, List.length_cons, Nat.mul_succ]
   omega
 cases l with
 | nil => simp [Lib.join]
 | cons x r =>
  rw [Lib.join_cons, List.length_append, tail r, List.length_cons, Nat.mul_succ]
  rw [List.map_cons, List.sum_cons] at h
  omega
theorem name_len {n : B} (h : isName n = true) : n.length ≤ 24 := by
 unfold isName named at h
 cases n with
 | nil => cases h
 | cons c r => simp only [Bool.and_eq_true, decide_eq_true_eq] at h; exact h.1.1.1
theorem upper_len {n : B} (h : isUpper n = true) : n.length ≤ 24 := by
 unfold isUpper named at h
 cases n with
 | nil => cases h
 | cons c r => simp only [Bool.and_eq_true, decide_eq_true_eq] at h; exact h.1.1
mutual
def vnum : Shape → Prop
 | .mk q _ _ _ ps => (-9223372036854775808 ≤ zOf q ∧ zOf q ≤ 9223372036854775807) ∧ vnums ps
def vnums : List Shape → Prop
 | [] => True
 | s :: r => vnum s ∧ vnums r
end
theorem vnums_of : ∀ {l : List Shape}, (∀ s ∈ l, vnum s) → vnums l
 | [], _ => by rw [vnums]; trivial
 | s :: r, h => by rw [vnums]; exact ⟨h s List.mem_cons_self, vnums_of fun x hx => h x (List.mem_cons_of_mem _ hx)⟩
theorem vnums_mem : ∀ {l : List Shape}, vnums l → ∀ s ∈ l, vnum s
 | x :: r, h, s, hs => by
  rw [vnums] at h
  rcases List.mem_cons.1 hs with rfl | hs
  ·exact h.1
  ·exact vnums_mem h.2 s hs
theorem vquot_parts {q : Int} {o t : B} {ns : List B} {ps : List Shape} (h : vquot (.mk q o t ns ps) = true) : (kOf q = 2 → (show1 4 t).isSome = true) ∧ ∀ s ∈ ps, vquot s = true := by
 rw [vquot, vquots_all, Bool.and_eq_true, Bool.or_eq_true, decide_eq_true_eq, List.all_eq_true] at h
 exact ⟨fun hk => h.1.resolve_left fun hn => hn hk, h.2⟩
theorem sum_le {l : List Shape} {f : Shape → Nat} (h : ∀ s ∈ l, f s + 100 ≤ 5000 * size s) : (l.map f).sum + 100 * l.length ≤ 5000 * (l.map size).sum := by
 induction l with
 | nil => simp
 | cons x r ih =>
  have h1 := h x List.mem_cons_self
  have h2 := ih fun s hs => h s (List.mem_cons_of_mem _ hs)
  simp only [List.map_cons, List.sum_cons, List.length_cons]
  omega
theorem zip_len : ∀ (ns : List B) (ps : List Shape), (∀ n ∈ ns, n.length ≤ 24) → (((ns.zip ps).map ftext).map List.length).sum ≤ (ps.map fun s => (vtext s).length).sum + 27 * ps.length
 | [], _, _ => by simp
 | _ :: _, [], _ => by simp
 | n :: ns, p :: ps, h => by
  have h1 := h n List.mem_cons_self
  have h2 := zip_len ns ps fun x hx => h x (List.mem_cons_of_mem _ hx)
  have h3 : (ftext (n, p)).length = n.length + (3 + (vtext p).length) := by
   show (n ++ 32 :: 61 :: 32 :: vtext p).length = _
   simp only [List.length_append, List.length_cons]
   omega
  simp only [List.zip_cons_cons, List.map_cons, List.sum_cons, List.length_cons, h3]
  omega
theorem sizes_sum : ∀ l : List Shape, sizes l = (l.map size).sum
 | [] => by rw [sizes]; rfl
 | s :: r => by rw [sizes, sizes_sum r]; rfl
theorem vtext_len : ∀ (d : Nat) (s : Shape), size s ≤ d → formed s = true → vquot s = true → vnum s → (vtext s).length + 100 ≤ 5000 * size s
 | 0, s, h, _, _, _ => by have := size_pos s; omega
 | d + 1, .mk q o t ns ps, hd, hf, hq, hn => by
  rw [size_mk] at hd ⊢
  rw [vnum] at hn
  obtain ⟨hv, hfp⟩ := formed_parts hf
  obtain ⟨hq1, hqp⟩ := vquot_parts hq
  have hnp := vnums_mem hn.2
  have ih : ∀ s ∈ ps, (vtext s).length + 100 ≤ 5000 * size s := fun s hs => vtext_len d s (by have := size_mem hs; omega) (hfp s hs) (hqp s hs) (hnp s hs)
  have hsum := sum_le ih
  rw [sizes_sum] at hd ⊢
  have e : (vtexts ps).map List.length = ps.map fun s => (vtext s).length := by rw [vtexts_map, List.map_map]; rfl
  have el : (vtexts ps).length = ps.length := by rw [vtexts_map, List.length_map]
  have hh : (((vtexts ps).headD []).length) ≤ (ps.map fun s => (vtext s).length).sum := by
   rw [vtexts_map]
   cases ps with
   | nil => simp
   | cons a r => simp only [List.map_cons, List.headD_cons, List.sum_cons]; omega
  have hi := itoa_len hn.1.1 hn.1.2
  obtain ⟨k1, k8⟩ := vform_kind hv
  rcases (by omega : kOf q = 1 ∨ kOf q = 2 ∨ kOf q = 3 ∨ kOf q = 4 ∨ kOf q = 5 ∨ kOf q = 6 ∨ kOf q = 7 ∨ kOf q = 8) with k | k | k | k | k | k | k | k
  ·rw [text1 k]; omega
  ·rw [text2 k]
   obtain ⟨x, hx⟩ := Option.isSome_iff_exists.1 (hq1 k)
   have := (show1_len hx).2
   omega
  ·rw [text3 k]
   split <;> (simp only [List.length_cons, List.length_nil]; omega)
  ·rw [vtext, if_neg (by omega), if_neg (by omega), if_neg (by omega), if_pos k]
   have := join_len (l := vtexts ps) (sep := [44, 32]) (m := (ps.map fun s => (vtext s).length).sum) (by rw [e]; exact Nat.le_refl _)
   simp only [List.length_cons, List.length_append, List.length_nil] at this ⊢
   omega
  ·obtain ⟨_, _, _, hl, hnm, _⟩ := form5 hv k
   rw [text5 k]
   have hz := zip_len ns ps fun n hn => name_len (hnm n hn)
   have := join_len (sep := [44, 32]) hz
   simp only [List.length_cons, List.length_append, List.length_nil, List.length_map, List.length_zip] at this ⊢
   omega
  ·obtain ⟨_, _, _, ht, _⟩ := form6 hv k
   have := name_len ht
   rw [vtext, if_neg (by omega), if_neg (by omega), if_neg (by omega), if_neg (by omega), if_neg (by omega), if_pos k]
   simp only [List.length_cons, List.length_append, List.length_nil] at this ⊢
   omega
  ·obtain ⟨ho, ht, _⟩ := form7 hv k
   have h1 := name_len ho
   have h2 := upper_len ht
   rw [vtext, if_neg (by omega), if_neg (by omega), if_neg (by omega), if_neg (by omega), if_neg (by omega), if_neg (by omega), if_pos k]
   simp only [List.length_cons, List.length_append, List.length_nil] at h1 h2 ⊢
   omega
  ·rw [text8 k]
   simp only [List.length_cons, List.length_append, List.length_nil]
   omega
end Go.Shp
end
