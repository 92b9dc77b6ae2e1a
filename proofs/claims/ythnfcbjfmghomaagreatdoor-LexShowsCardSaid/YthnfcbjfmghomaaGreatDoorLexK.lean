/- The scanner. No condition. -/
import Derived.Test.YthnfcbjfmghomaaGreatDoorLexJ
import Derived.Test.YthnfcbjfmghomaaGreatDoorScan
namespace Go.Lift
theorem own_mono {w : World} {base base' e sz n : Nat} {v : Value} {xs : List Value} (h : w.ownsRow base e sz v n xs) (hb : base' ≤ base) : w.ownsRow base' e sz v n xs := by
  refine ⟨h.1, ?_⟩
  rcases h.2 with h | ⟨g, cap, cur, rfl, h0, r⟩
  · exact .inl h
  · exact .inr ⟨g, cap, cur, rfl, Nat.le_trans hb h0, r⟩
end Go.Lift
namespace Go.Proofs.YthnfcbjfmghomaaGreatDoor
open Go.Lift Go.Lex
section
variable {w : World} {R : Ending → World → Prop}
/-- the way out with the scanner's fault -/
theorem fault_ret {b m : Nat} {t tm : TypeId} {v0 v1 v2 x y : Value} {e a : Int} (_ : m ≠ b) (B1 : Blk w b t [v0, v1, v2, .int .i64 e, .int .i64 a]) (M1 : Blk w m tm [x, y])
    (h : ∀ w', Fr (oneB m) w w' → R (.returned (.tuple #[.slice none 0 0, .agg #[.int .i64 e, .int .i64 a]])) w') :
    drewG (ldG (CT.int IntKind.i64) (Addr.mk b 3 Option.none) (fun (n21 : Int) => ldG (CT.int IntKind.i64) (Addr.mk b 4 Option.none) (fun (n22 : Int) => stG (Addr.mk m 0 Option.none) (Value.int IntKind.i64 n21) (stG (Addr.mk m 1 Option.none) (Value.int IntKind.i64 n22)
      (ldG (CT.int IntKind.i64) (Addr.mk m 0 Option.none) (fun (n23 : Int) => ldG (CT.int IntKind.i64) (Addr.mk m 1 Option.none) (fun (n24 : Int) => retG (Value.tuple #[(Value.slice Option.none 0 0), (Value.agg #[(Value.int IntKind.i64 n23), (Value.int IntKind.i64 n24)])])))))))) R w := by
  refine drew_ok fun w1 F1 z1 => ?_
  have B2 := B1.fr F1 (fun h => h)
  refine B2.ld (o := 3) rfl (B2.ld (o := 4) rfl ?_)
  refine (M1.fr F1 (fun h => h)).st (o := 0) rfl (by simp) fun w2 M2 F2 => M2.st (o := 1) rfl (by simp) fun w3 M3 F3 => ?_
  exact M3.ld (o := 0) rfl (M3.ld (o := 1) rfl (h _ (((F1.mono fun _ _ h => h.elim).sq F2).sq F3)))

/-- what a scan hands back -/
def ScanP (w : World) (s : ByteArray) : Ending → World → Prop := fun en w' => (match scan (bl s) with
    | .ok toks => ∃ l : Sl, en = .returned (.tuple #[.slice l.a l.n l.c, .agg #[.int .i64 0, .int .i64 0]]) ∧ w'.ownsRow w.heap.size 32 3 (.slice l.a l.n l.c) toks.length (toks.flatMap tokCells)
    | .error f => en = .returned (.tuple #[.slice none 0 0, .agg #[.int .i64 (f.err : Int), .int .i64 (f.at' : Int)]])) ∧ Fr noB w w'

set_option maxHeartbeats 4000000 in
theorem Scan_ok (s : ByteArray) (hg : Glob w) : Calls Tryz.prog 19 #[.string s] w (ScanP w s) := by
  have hsl := bl_length s
  apply c19
  unfold t19
  refine new_ok fun w1 m1 hm1 hs1 M1 F1 => ite_ok (fun hbig => ?_) fun hsmall => ?_
  · have hbig : (s.size : Int) > 4096 := of_decide_eq_true hbig
    refine M1.st (o := 0) rfl (by simp) fun w2 M2 F2 => M2.st (o := 1) rfl (by simp) fun w3 M3 F3 => M3.ld (o := 0) rfl (M3.ld (o := 1) rfl ?_)
    show ScanP w s _ _
    unfold ScanP
    rw [scan_big (by omega)]
    exact ⟨rfl, F1.then (F2.sq F3) fun y hy h => by unfold oneB at h; omega⟩
  have hsmall : ¬ (s.size : Int) > 4096 := of_decide_eq_false hsmall
  refine new_ok fun w2 b hb hs2 B2 F2 => ?_
  have M2 := M1.fr F2 (fun h => h)
  have F02 := F1.tr F2
  have hmb : m1 ≠ b := by omega
  have hwb : w.heap.size ≤ b := by omega
  have hm1b : m1 < b := by omega
  have hscan := scan_L (s := bl s) (by omega)
  have S2 : St w2 b s 0 [] 0 0 := ⟨⟨none, 0, 0⟩, B2, rfl, .inl ⟨rfl, rfl⟩⟩
  have hg2 : GlobB b w2 := GlobB.of hg F02 hwb
  have fin : ∀ {w' w'' : World}, Fr (bh b) w2 w' → Fr (oneB m1) w' w'' → Fr noB w w'' := fun F G => (F02.then F fun y hy h => by unfold bh at h; omega).then G fun y hy h => by unfold oneB at h; omega
  -- the way out with a fault
  have out : ∀ {w' : World} {i' : Nat} {acc : List Tok} {f : Fault}, scan (bl s) = .error f → St w' b s i' acc (f.err : Int) (f.at' : Int) → Fr (bh b) w2 w' →
      drewG (ldG (CT.int IntKind.i64) (Addr.mk b 3 Option.none) (fun (n21 : Int) => ldG (CT.int IntKind.i64) (Addr.mk b 4 Option.none) (fun (n22 : Int) => stG (Addr.mk m1 0 Option.none) (Value.int IntKind.i64 n21) (stG (Addr.mk m1 1 Option.none) (Value.int IntKind.i64 n22)
        (ldG (CT.int IntKind.i64) (Addr.mk m1 0 Option.none) (fun (n23 : Int) => ldG (CT.int IntKind.i64) (Addr.mk m1 1 Option.none) (fun (n24 : Int) => retG (Value.tuple #[(Value.slice Option.none 0 0), (Value.agg #[(Value.int IntKind.i64 n23), (Value.int IntKind.i64 n24)])])))))))) (ScanP w s) w' := by
    intro w' i' acc f hf hS F
    obtain ⟨l, B, _⟩ := hS
    refine fault_ret hmb B (M2.fr F (fun h => by unfold bh at h; omega)) fun w'' G => ?_
    unfold ScanP
    rw [hf]
    exact ⟨rfl, fin F G⟩
  refine join0_ok (fun w' => ∃ acc, scan (bl s) = .ok (acc ++ [⟨0, [], s.size⟩]) ∧ acc.length ≤ s.size ∧ St w' b s s.size acc 0 0 ∧ Fr (bh b) w2 w') (fun k5 hk5 => ?_) ?_
  · refine loop0_ok (fun m w' => ∃ (j : Nat) (acc : List Tok), m = s.size - j ∧ j ≤ s.size ∧ acc.length ≤ j ∧ St w' b s j acc 0 0 ∧ Fr (bh b) w2 w' ∧ scan (bl s) = scanL j ((bl s).drop j) acc) (fun m rec w3 hI hrec => ?_) (n := s.size) ⟨0, [], rfl, Nat.zero_le _, Nat.le_refl _, S2, Fr.refl _ _, hscan⟩
    obtain ⟨j, acc, rfl, hj, hacc, S3, F3, hq⟩ := hI
    refine join_in ?_
    obtain ⟨l, B3, hown3⟩ := S3
    refine callU8_ok (peek_ok (k := 0) B3 (by omega) (by omega)) fun w4 F4 => ?_
    have S4 : St w4 b s j acc 0 0 := St.fr ⟨l, B3, hown3⟩ F4
    have B4 := B3.fr F4 (fun h => h)
    have F24 := F3.sq (F4.up b)
    rw [Nat.add_zero]
    cases hrem : (bl s).drop j with
    | nil =>
      have hjs : j = s.size := by have := List.drop_eq_nil_iff.1 hrem; omega
      subst hjs
      refine join_in (B4.ld (o := 1) rfl (ite_yes (by simp) (hk5 _ ⟨acc, ?_, hacc, S4, F24⟩)))
      rw [hq, hrem, scanL_nil]
    | cons c r =>
      obtain ⟨hc, hdr, hlt⟩ := drop_cons_getD hrem
      rw [hsl] at hlt
      rw [hc]
      rw [hrem] at hq
      have hrl : (c :: r).length = s.size - j := by rw [← hrem, List.length_drop, hsl]
      refine join0_ok (fun w' => Lex.blank c = false ∧ ¬ (c = 45 ∧ r.head? = some 45) ∧ St w' b s j acc 0 0 ∧ Fr (bh b) w2 w') (fun k9 hk9 => ?_) ?_
      · refine B4.ld (o := 1) rfl (ite_no (by rw [beq_eq_false_iff_ne]; omega) ?_)
        refine join1_ok (c := .bool) (fun (x : Bool) w' => x = Lex.blank c ∧ w' = w4) (fun kb hkb => ?_) ?_
        · rw [u8_lit c 32 (z := 32) rfl, u8_lit c 10 (z := 10) rfl, u8_lit c 9 (z := 9) rfl, u8_lit c 13 (z := 13) rfl]
          unfold Lex.blank at hkb
          generalize (c == 32) = x1 at *
          generalize (c == 10) = x2 at *
          generalize (c == 9) = x3 at *
          generalize (c == 13) = x4 at *
          exact ite_ok (fun h => hkb _ _ ⟨by rw [h]; rfl, rfl⟩) fun h => ite_ok (fun h2 => hkb _ _ ⟨by rw [h, h2]; rfl, rfl⟩) fun h2 => ite_ok (fun h3 => hkb _ _ ⟨by rw [h, h2, h3]; rfl, rfl⟩) fun h3 => hkb _ _ ⟨by rw [h, h2, h3]; rfl, rfl⟩
        rintro x w' ⟨rfl, hw⟩
        replace hw := hw.symm
        subst hw
        refine ite_ok (fun hbl => ?_) fun hbl => ?_
        · refine B4.ld (o := 1) rfl (B4.st (o := 1) rfl (by simp) fun w5 B5 F5 => hrec (s.size - (j + 1)) w5 (by omega) ⟨j + 1, acc, rfl, by omega, by omega, ⟨l, ?_, own_one (own_fr0 hown3 F4) F5⟩, F24.sq F5.one, ?_⟩)
          · have ew : IntKind.wrap .i64 ((j : Int) + 1) = ((j + 1 : Nat) : Int) := by rw [wrap_ok (by omega) (by omega)]; omega
            rw [← ew]
            exact B5
          · rw [hq, scanL_blank hbl, hdr]
        refine join1_ok (c := .bool) (fun (x : Bool) w' => (x = true ↔ (c = 45 ∧ r.head? = some 45)) ∧ Fr noB w4 w') (fun kb hkb => ?_) ?_
        · rw [u8_lit c 45 (z := 45) rfl]
          refine ite_ok (fun h => callU8_ok (peek_ok (k := 1) B4 (by omega) (by omega)) fun w5 F5 => ?_) fun h => hkb _ _ ⟨?_, Fr.refl _ _⟩
          rotate_left
          · have h : ¬ c = 45 := by simpa using h
            simp [h]
          have h : c = 45 := by simpa using h
          rw [u8_lit _ 45 (z := 45) rfl]
          refine hkb _ _ ⟨?_, F5⟩
          have hd1 : (bl s).getD (j + 1) 0 = (r.head?.getD 0) := by
            cases r with
            | nil => exact drop_nil_getD hdr
            | cons y r => exact (drop_cons_getD hdr).1
          rw [hd1, beq_iff_eq]
          cases r with
          | nil => simp [h]
          | cons y r => simp [h]
        rintro x w5 ⟨hx, F5⟩
        have B5 := B4.fr F5 (fun h => h)
        have S5 := S4.fr F5
        have F25 := F24.sq (F5.up b)
        refine ite_ok (fun h => ?_) fun h => hk9 _ ⟨hbl, (fun hh => by rw [hx.2 hh] at h; cases h), S5, F25⟩
        have hline := hx.1 h
        have hT := scanL_line (i := j) (acc := acc) hbl hline
        have hT1 : 1 ≤ (comment (c :: r)).length := by rw [hline.1]; exact comment_pos r
        have hT2 := ((c :: r).takeWhile_sublist (· != 10)).length_le
        refine B5.ld (o := 1) rfl (callS_ok (while_ok B5 (by omega) (by omega) pred_line) fun w6 ⟨B6, F6⟩ => ?_)
        rw [hrem] at B6
        change Blk w6 b _ (_ :: .int .i64 ((j + (comment (c :: r)).length : Nat) : Int) :: _) at B6
        have F26 := F25.sq F6.one
        refine B6.ld (o := 1) rfl (call_ok (whole_ok (i := j) (j := j + (comment (c :: r)).length) B6 (hg2.fr F26).glob (by omega) (by omega) (by unfold comment; omega)) ?_)
        intro en w7 hpost
        have etk : ((bl s).drop j).take (j + (comment (c :: r)).length - j) = comment (c :: r) := by
          rw [hrem, Nat.add_sub_cancel_left]
          exact (List.prefix_iff_eq_take.1 (List.takeWhile_prefix _)).symm
        rw [etk] at hpost
        have hown6 := own_one (own_fr0 (own_fr0 hown3 F4) F5) F6
        cases hu : utfBad (comment (c :: r)) with
        | some k =>
          rw [hu] at hpost hT
          obtain ⟨rfl, B7, F7⟩ := hpost
          refine ⟨((false, ()), ()), rfl, ?_⟩
          exact out (f := ⟨30, j + k⟩) (hq.trans hT) ⟨l, B7, own_one hown6 F7⟩ (F26.sq F7.one)
        | none =>
          rw [hu] at hpost hT
          obtain ⟨rfl, F7⟩ := hpost
          refine ⟨((true, ()), ()), rfl, ?_⟩
          refine hrec (s.size - (j + (comment (c :: r)).length)) w7 (by omega) ⟨j + (comment (c :: r)).length, acc, rfl, by unfold comment; omega, by omega, ⟨l, B6.fr F7 (fun h => h), own_fr0 hown6 F7⟩, F26.sq (F7.up b), ?_⟩
          rw [hq, hT, ← hrem, List.drop_drop]
      · rintro w5 ⟨hbl, hln, S5, F25⟩
        have hT := scanL_tok (i := j) (acc := acc) hbl hln
        refine call_ok (token_ok S5 (hg2.fr F25) (by omega) hlt (by omega)) ?_
        intro en w6 hp
        unfold TokP at hp
        rw [hrem] at hp
        cases hf : first (c :: r) with
        | error f =>
          rw [hf] at hp hT
          obtain ⟨rfl, ⟨i', S6⟩, F6⟩ := hp
          refine ⟨((false, ()), ()), rfl, ?_⟩
          exact out (f := ⟨f.err, j + f.at'⟩) (hq.trans hT) S6 (F25.sq F6)
        | ok x =>
          obtain ⟨k, t, n⟩ := x
          have hpos := first_pos hf
          rw [hf] at hp hT
          obtain ⟨rfl, S6, F6⟩ := hp
          refine ⟨((true, ()), ()), rfl, ?_⟩
          refine hrec (s.size - (j + n)) w6 (by omega) ⟨j + n, _, rfl, by omega, by rw [List.length_append, List.length_singleton]; omega, S6, F25.sq F6, ?_⟩
          rw [hq, hT, ← hrem]
          simp only [List.drop_drop]
  rintro w3 ⟨acc, hsc, hacc, ⟨l, B3, hown3⟩, F3⟩
  have M3 := M2.fr F3 (fun h => by unfold bh at h; omega)
  refine B3.ldS (o := 2) rfl (new_ok fun w4 m31 hm31 hs4 B31 F4 => ?_)
  have hown4 := own_fr0 hown3 F4
  have B4 := B3.fr F4 (fun h => h)
  have M4 := M3.fr F4 (fun h => h)
  obtain ⟨ti, z, hi, hz, h1, h2, h3⟩ := rTok
  have hb4 := B4.lt
  refine appendC_ok uToks hi hz h1 h2 (by rw [h3]; rfl) (by omega) (s := l) hown4 (m := 1) (news := [.int .i64 0, .string ⟨#[]⟩, .int .i64 (s.size : Int)]) rfl (B31.held fun j v hj => by rw [Nat.zero_add]; exact hj)
    (fun u hu => by simp only [List.mem_cons, List.not_mem_nil, or_false] at hu; rcases hu with rfl | rfl | rfl <;> rfl) (by unfold maxLen; omega) (by omega) (by omega) fun l' w5 hown5 F5 => ?_
  have M5 := M4.fr F5 (fun h => own_ne hown4 M4 (by decide) _ h rfl)
  refine M5.st (o := 0) rfl (by simp) fun w6 M6 F6 => M6.st (o := 1) rfl (by simp) fun w7 M7 F7 => M7.ld (o := 0) rfl (M7.ld (o := 1) rfl ?_)
  show ScanP w s _ _
  unfold ScanP
  rw [hsc]
  refine ⟨⟨l', rfl, ?_⟩, fin ((F3.sq (F4.up b)).then F5 fun y hy h => ?_) (F6.sq F7)⟩
  · rw [List.length_append, List.flatMap_append]
    have := own_fr (own_fr hown5 F6 fun k hk e => own_ne hown5 M5 (by decide) _ hk e.symm) F7 fun k hk e => by
      have := own_ne hown5 M5 (by decide) _ hk
      exact this e.symm
    have := own_mono this (base' := w.heap.size) (by omega)
    simpa [tokCells, bs] using this
  · have := (hown4.lt y h).1
    unfold bh
    omega
end
end Go.Proofs.YthnfcbjfmghomaaGreatDoor
