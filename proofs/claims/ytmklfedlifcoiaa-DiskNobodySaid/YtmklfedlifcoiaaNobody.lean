/- Disks that no call made: the program's methods on them; DiskNobody's contract. -/
import Derived.Test.YtmklfedlifcoiaaLawB
namespace Go.Proofs.Ytmklfedlifcoiaa
open Go.Lift Go.RowKit Go.Shelf
attribute [local go_sem] Oper.semAt_some

def zeroDisk : List Value := [.slice none 0 0, .slice none 0 0, .slice none 0 0, .int .i64 0, .int .i64 0, .int .i64 0, .int .i64 0, .bool false]
/-- no disk, or one that no call made -/
def NoDisk (w : World) (p : Option Addr) : Prop := p = none ∨ ∃ m, p = some ⟨m, 0, none⟩ ∧ Blk w m 61 zeroDisk
theorem NoDisk.fr {w w' : World} {p : Option Addr} (h : NoDisk w p) (F : Fr noB w w') : NoDisk w' p := h.imp id fun ⟨m, hp, hB⟩ => ⟨m, hp, hB.fr F (fun h => h)⟩
section
variable {w : World} {p : Option Addr}
theorem n34_ok (N : NoDisk w p) : Calls Try.prog 34 #[.pointer p] w fun e w' => e = .returned (.bool true) ∧ w' = w := by
  apply c34
  unfold t34
  refine join1_ok (c := .bool) (fun (b : Bool) w' => b = true ∧ w' = w) (fun k hk => ?_) (fun b w' h => ⟨by rw [h.1], h.2⟩)
  rcases N with rfl | ⟨m, rfl, hB⟩
  · exact ite_yes rfl (hk _ _ ⟨rfl, rfl⟩)
  · exact ite_no rfl (nn_ok (hB.ldS (o := 0) rfl (hk _ _ ⟨rfl, rfl⟩)))
theorem n30_ok (N : NoDisk w p) (i : Int) : Calls Try.prog 30 #[.pointer p, .int .i64 i] w fun e w' => e = .returned (.int .i64 1) ∧ w' = w := by
  apply c30
  unfold t30
  refine join_in (callB_ok (n34_ok N) fun w' hw => ite_yes rfl ⟨rfl, hw⟩)
theorem n12_ok (N : NoDisk w p) (i : Int) (s : ByteArray) : Calls Try.prog 12 #[.pointer p, .int .i64 i, .string s] w fun e w' => e = .returned (.int .i64 1) ∧ w' = w := by
  apply c12
  unfold t12
  exact callI_ok (n30_ok N i) fun w' hw => ite_yes rfl ⟨rfl, hw⟩
theorem n19_ok (N : NoDisk w p) : Calls Try.prog 19 #[.pointer p] w fun e w' => e = .returned (.int .i64 1) ∧ w' = w := by
  apply c19
  unfold t19
  exact callI_ok (n30_ok N 0) fun w' hw => ite_yes rfl ⟨rfl, hw⟩
theorem n11_ok (N : NoDisk w p) (i : Int) (f : Sl) (t c : Int) : Calls Try.prog 11 #[.pointer p, .int .i64 i, .agg #[.slice f.a f.n f.c, .int .i64 t, .int .i64 c]] w fun e w' => e = .returned (.int .i64 1) ∧ Fr noB w w' := by
  apply c11
  unfold t11
  exact new_ok fun w1 m _ _ _ F1 => callI_ok (n30_ok (N.fr F1) 0) fun w' hw => ite_yes rfl ⟨rfl, hw ▸ F1⟩
theorem n14_ok (N : NoDisk w p) (f : Sl) (t c : Int) : Calls Try.prog 14 #[.pointer p, .agg #[.slice f.a f.n f.c, .int .i64 t, .int .i64 c]] w fun e w' => e = .returned (.int .i64 1) ∧ Fr noB w w' := by
  apply c14
  unfold t14
  exact new_ok fun w1 m _ _ _ F1 => callI_ok (n30_ok (N.fr F1) 0) fun w' hw => ite_yes rfl ⟨rfl, hw ▸ F1⟩
theorem n20_ok (N : NoDisk w p) : Calls Try.prog 20 #[.pointer p] w fun e w' => e = .returned (.int .i64 1) ∧ w' = w := by
  apply c20
  unfold t20
  exact callB_ok (n34_ok N) fun w' hw => ite_yes rfl ⟨rfl, hw⟩
theorem n15_ok (N : NoDisk w p) : Calls Try.prog 15 #[.pointer p] w fun e w' => e = .returned (.bool false) ∧ w' = w := by
  apply c15
  unfold t15
  exact join_in (callB_ok (n34_ok N) fun w' hw => ite_no rfl ⟨rfl, hw⟩)
theorem n25_ok (N : NoDisk w p) : Calls Try.prog 25 #[.pointer p] w fun e w' => e = .returned (.int .i64 0) ∧ w' = w := by
  apply c25
  unfold t25
  exact callB_ok (n34_ok N) fun w' hw => ite_yes rfl ⟨rfl, hw⟩
theorem n17_ok (N : NoDisk w p) : Calls Try.prog 17 #[.pointer p] w fun e w' => e = .returned (.int .i64 0) ∧ w' = w := by
  apply c17
  unfold t17
  exact callB_ok (n34_ok N) fun w' hw => ite_yes rfl ⟨rfl, hw⟩
theorem n16_ok (N : NoDisk w p) : Calls Try.prog 16 #[.pointer p] w fun e w' => e = .returned (.string ⟨#[]⟩) ∧ w' = w := by
  apply c16
  unfold t16
  exact callB_ok (n34_ok N) fun w' hw => ite_yes rfl ⟨rfl, hw⟩

set_option maxRecDepth 100000 in
set_option maxHeartbeats 4000000 in
theorem n27_ok (N : NoDisk w p) (i : Int) : Calls Try.prog 27 #[.pointer p, .int .i64 i] w fun e w' =>
    e = .returned (.tuple #[.string ⟨#[]⟩, .int .i64 1]) ∧ Fr noB w w' := by
  refine (callsIn_wide (n := 9)).1 ?_
  refine callsIn_of_wp_marks Try.func27 rfl trivial ?_ rfl
  simp only [Try.ntmps27, List.size_toArray, List.length_cons, List.length_nil, Nat.reduceAdd, Nat.reduceSub, Array.replicate_succ, Array.replicate_zero, List.push_toArray, List.append_toArray, List.nil_append, List.cons_append]
  obtain ⟨w1, hw1⟩ : ∃ w1, w.alloc (.cells #[.int .i64 i] 3) = w1 := ⟨_, rfl⟩
  obtain ⟨w2, hw2⟩ : ∃ w2, w1.alloc (.cells #[.string ⟨#[]⟩] 9) = w2 := ⟨_, rfl⟩
  obtain ⟨w3, hw3⟩ : ∃ w3, w2.alloc (.cells #[.int .i64 0] 28) = w3 := ⟨_, rfl⟩
  have B1 : Blk w1 w.heap.size 3 [.int .i64 i] := hw1 ▸ blk_alloc w _ _
  have F1 : Fr noB w w1 := hw1 ▸ fr_alloc w _
  have hs1 : w1.heap.size = w.heap.size + 1 := by rw [← hw1]; simp
  have B2 : Blk w2 (w.heap.size + 1) 9 [.string ⟨#[]⟩] := by have := blk_alloc w1 #[.string ⟨#[]⟩] 9; rw [hw2, hs1] at this; exact this
  have F2 : Fr noB w1 w2 := hw2 ▸ fr_alloc w1 _
  have hs2 : w2.heap.size = w.heap.size + 2 := by rw [← hw2]; simp [hs1]
  have B3 : Blk w3 (w.heap.size + 2) 28 [.int .i64 0] := by have := blk_alloc w2 #[.int .i64 0] 28; rw [hw3, hs2] at this; exact this
  have F3 : Fr noB w2 w3 := hw3 ▸ fr_alloc w2 _
  have B13 := (B1.fr F2 (fun h => h)).fr F3 (fun h => h)
  have B23 := B2.fr F3 (fun h => h)
  have F03 : Fr noB w w3 := (F1.then F2 fun _ _ h => h).then F3 fun _ _ h => h
  have N3 := N.fr F03
  have c1 := B1.cell (o := 0) rfl
  have c3 := B13.cell (o := 0) rfl
  gi_wp2_with (first | gi_at_call 30 | simp only [hw1] | simp only [hw2] | simp only [hw3])
  refine ⟨trivial, (callsIn_wide.2 (n30_ok N3 i)).mono ?_⟩
  rintro e w3' ⟨rfl, hw'⟩
  obtain rfl : w3 = w3' := hw'.symm
  have fz4 := B23.frozen 0
  have fz5 := B3.frozen 0
  have c4 := B23.cell (o := 0) rfl
  have c5 := B3.cell (o := 0) rfl
  gi_wp2
  obtain ⟨k4, k5, kF, _⟩ := two_cells (v4 := .string ⟨#[]⟩) (v5 := .int .i64 1) F03 B23 B3 (by omega) (by omega) (by omega)
  have k4 := k4.cell (o := 0) rfl
  have k5 := k5.cell (o := 0) rfl
  refine ⟨.tuple #[.string ⟨#[]⟩, .int .i64 1], ?_, rfl, kF⟩
  simp [results, Try.f27, go_sem, k4, k5]
end

set_option maxRecDepth 100000 in
set_option maxHeartbeats 4000000 in
theorem nobody_ok {w0 : World} (k a : Int) (s : ByteArray) (r : Bool) (f : Sl) (t c : Int) :
    Calls Try.prog 7 #[.agg #[.int .i64 k, .int .i64 a, .string s, .bool r, .slice f.a f.n f.c, .int .i64 t, .int .i64 c]] w0 fun e w' => e = .returned (.bool true) ∧ Fr noB w0 w' := by
  apply c7
  unfold t7
  refine new_ok fun w1 m7 hm7 hs1 B7 F1 => new_ok fun w2 m8 hm8 hs2 B8 F2 => new_ok fun w3 m9 hm9 hs3 B9 F3 => ?_
  have B73 := (B7.fr F2 (fun h => h)).fr F3 (fun h => h)
  have B83 := B8.fr F3 (fun h => h)
  have F03 : Fr noB w0 w3 := (F1.then F2 fun _ _ h => h).then F3 fun _ _ h => h
  refine join0_ok (fun w' => Fr noB w3 w') (fun kend hkend => ?_) (fun w' F => callB_ok awake_ok fun w4 F4 => ⟨rfl, (F03.then F fun _ _ h => h).then F4 fun _ _ h => h⟩)
  refine loop1_ok (c := .int .i64) (fun (i : Int) w' => ∃ k : Nat, i = (k : Int) ∧ k ≤ 2 ∧ Fr noB w3 w') (fun (i : Int) => 2 - i.toNat) ?_ ⟨0, rfl, by omega, Fr.refl _ _⟩
  rintro rec i w4 ⟨j, rfl, hj, F4⟩ hrec
  refine ite_ok (fun hlt => ?_) fun hge => hkend _ F4
  have hlt : j < 2 := by simp only [decide_eq_true_eq] at hlt; omega
  refine join0_ok (fun w' => Fr noB w3 w') (fun kr hkr => ?_) (fun w' F => ?_)
  rotate_left
  · refine hrec _ _ ⟨j + 1, ?_, hlt, F⟩ ?_
    · rw [wrap_ok (by omega) (by omega)]; omega
    · rw [wrap_ok (by omega) (by omega), Int.toNat_natCast]; omega
  have B94 := B9.fr F4 (fun h => h)
  have B84 := B83.fr F4 (fun h => h)
  obtain ⟨p, hp, N⟩ : ∃ p, ([Value.pointer none, .pointer (some ⟨m8, 0, none⟩)] : List Value)[0 + j * 1]? = some (.pointer p) ∧ NoDisk w4 p := by
    match j, hlt with
    | 0, _ => exact ⟨none, rfl, .inl rfl⟩
    | 1, _ => exact ⟨some ⟨m8, 0, none⟩, rfl, .inr ⟨m8, rfl, by simpa [zeroDisk] using B84⟩⟩
  refine idxB_ok (by omega) (B94.ld (c := .ptr) (o := 0 + j * 1) (x := p) (by simpa [CT.val] using hp) ?_)
  -- what every call keeps
  have b7 : ∀ {w'}, Fr noB w4 w' → Blk w' m7 53 [.int .i64 k, .int .i64 a, .string s, .bool r, .slice f.a f.n f.c, .int .i64 t, .int .i64 c] := fun F => by simpa using (B73.fr F4 (fun h => h)).fr F (fun h => h)
  have B74 := b7 (Fr.refl _ _)
  refine B74.ld (o := 1) rfl (callSI_ok (n27_ok N a) fun w5 F5 => ?_)
  have B75 := b7 F5
  have N5 := N.fr F5
  refine join1_ok (c := .bool) (fun (b : Bool) w' => b = false ∧ Fr noB w4 w') (fun k19 hk19 => ?_) ?_
  · refine ite_no (by simp) (ite_no rfl ?_)
    refine B75.ld (o := 1) rfl (B75.ld (o := 2) rfl (callI_ok (n12_ok N5 a s) fun w6 hw => ?_))
    replace hw := hw.symm
    subst hw
    refine ite_no rfl (callI_ok (n19_ok N5) fun w6 hw => ?_)
    replace hw := hw.symm
    subst hw
    refine ite_no rfl (B75.ld (o := 1) rfl (B75.ldS (o := 4) rfl (B75.ld (o := 5) rfl (B75.ld (o := 6) rfl ?_))))
    refine callI_ok (n11_ok N5 a ⟨f.a, f.n, f.c⟩ t c) fun w6 F6 => ite_no rfl ?_
    have F46 := F5.then F6 fun _ _ h => h
    have B76 := b7 F46
    have N6 := N.fr F46
    refine B76.ldS (o := 4) rfl (B76.ld (o := 5) rfl (B76.ld (o := 6) rfl ?_))
    refine callI_ok (n14_ok N6 ⟨f.a, f.n, f.c⟩ t c) fun w7 F7 => ite_no rfl ?_
    have F47 := F46.then F7 fun _ _ h => h
    refine callI_ok (n20_ok (N.fr F47)) fun w8 hw => ?_
    replace hw := hw.symm
    subst hw
    exact hk19 _ _ ⟨rfl, F47⟩
  rintro b w6 ⟨rfl, F6⟩
  have N6 := N.fr F6
  refine ite_no rfl (join1_ok (c := .bool) (fun (b : Bool) w' => b = false ∧ Fr noB w4 w') (fun k hk => ?_) ?_)
  · refine callB_ok (n15_ok N6) fun w7 hw => ?_
    replace hw := hw.symm
    subst hw
    refine ite_no rfl (callI_ok (n25_ok N6) fun w7 hw => ?_)
    replace hw := hw.symm
    subst hw
    refine callI_ok (n17_ok N6) fun w7 hw => ?_
    replace hw := hw.symm
    subst hw
    refine ite_no rfl (callS_ok (n16_ok N6) fun w7 hw => ?_)
    replace hw := hw.symm
    subst hw
    exact hk _ _ ⟨by simp, F6⟩
  rintro b w7 ⟨rfl, F7⟩
  exact ite_no rfl (hkr _ (F4.then F7 fun _ _ h => h))
end Go.Proofs.Ytmklfedlifcoiaa
