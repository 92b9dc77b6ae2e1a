/- The finder law behind FRanksCard: one part of its proof (joined by program out of my own texts). No condition. -/
import Derived.Test.YticokfpaoiekgaaGreatDoorFRkBH
section
namespace Go.Proofs.YticokfpaoiekgaaGreatDoor
open Go.Lift Go.Lex Go.Shp Go.Prs
section
variable {w : World} {p : Nat} {sl : Sl} {l : List Tok} {s : PS}
theorem pwhole_ok (C : Cur w p sl l s) : Calls Tryz.prog 109 #[.pointer (some ⟨p, 0, none⟩)] w (ParP w p sl l (wholeF l s).1 (wholeF l s).2) := by
  have hpw : p < w.heap.size := C.b.lt
  apply c109
  unfold t109
  refine new_ok fun w1 m1 hm1 hs1 B1 F1 => nn_ok (callTok_ok (ppeek_ok (C.fr0 F1)) fun w2 F2 => ?_)
  have G2 := F1.tr F2
  have C2 := C.fr0 G2
  have hz2 := F2.size
  refine callPar_ok (shape_ok (l.length + 1) s w2 C2 (fun _ => by omega) (fun _ => by omega)) fun k o n ns ps w3 C3 F3 hv => ?_
  generalize hq : shapeF l (l.length + 1) s = q at C3 hv
  obtain ⟨q, s'⟩ := q
  have hW : wholeF l s = if s'.err = 0 ∧ check q ≠ 0 then (q, fail (check q) (peek l s.at').at' s') else (q, s') := by
    unfold wholeF
    rw [hq]
  have hz3 := F3.size
  refine new_ok fun w4 m11 hm11 hs4 B4 F4 => fill_ok B4 rfl rfl rfl rfl rfl rfl fun w5 B5 F5 => ?_
  have G35 : Fr noB w3 w5 := F4.fill (by omega) F5
  change Blk w5 m11 _ (shCells k o n ns ps) at B5
  have C5 := C3.fr0 G35
  have hv5 : ShV w5 k o n ns ps q := hv w5 (G35.mono fun _ _ h => h.elim)
  have B15 : Blk w5 m1 _ _ := (B1.fr F2 (fun h => h)).fr (F3.then G35 fun _ _ h => h.elim) (fun h => by change m1 = p at h; omega)
  have N5 : Fr (oneB p) w w5 := st_fr (G2.mono fun _ _ h => h.elim) (F3.then G35 fun _ _ h => h.elim)
  refine nn_ok (callB_ok (pbad_ok C5) fun w6 F6 => ?_)
  refine join0_ok (fun w' => Cur w' p sl l (wholeF l s).2 ∧ Fr (oneB p) w6 w') (fun kj hkj => ?_) ?_
  · refine ite_ok (fun hb => ?_) fun hb => hkj _ ⟨?_, Fr.refl _ _⟩
    rotate_left
    · have hb : s'.err ≠ 0 := by simpa using hb
      rw [hW, if_neg (fun h => hb h.1)]
      exact C5.fr0 F6
    have hb : s'.err = 0 := by simpa using hb
    refine (B5.fr F6 (fun h => h)).ldV (callI_ok (checkC (hv5.fr F6)) fun w7 F7 => ?_)
    refine join_in (vs := []) (ite_ok (fun hc => ?_) fun hc => hkj _ ⟨?_, F7.mono fun _ _ h => h.elim⟩)
    · have hc : check q ≠ 0 := by
        intro e
        rw [e] at hc
        cases hc
      have C7 := (C5.fr0 F6).fr0 F7
      refine nn_ok (call_ok (pfail_ok C7 (check q) (peek l s.at').at') ?_)
      rintro e w8 ⟨rfl, C8, F8⟩
      refine ⟨(), rfl, hkj _ ⟨?_, st_fr (F7.mono fun _ _ h => h.elim) F8⟩⟩
      rw [hW, if_pos ⟨hb, hc⟩]
      exact C8
    · have hc : check q = 0 := nat0 (by simpa using hc)
      rw [hW, if_neg (fun h => h.2 hc)]
      exact (C5.fr0 F6).fr0 F7
  rintro w7 ⟨C7, F7⟩
  have hq1 : (wholeF l s).1 = q := by rw [hW]; split <;> rfl
  have F57 : Fr (oneB p) w5 w7 := st_fr (F6.mono fun _ _ h => h.elim) F7
  have hz7 := F57.size
  refine (B5.fr F57 (fun h => by change m11 = p at h; omega)).ldV (fill_ok (B15.fr F57 (fun h => by change m1 = p at h; omega)) rfl rfl rfl rfl rfl rfl fun w8 B8 F8 => ?_)
  change Blk w8 m1 _ (shCells k o n ns ps) at B8
  rw [hq1]
  refine B8.ldV ⟨k, o, n, ns, ps, rfl, C7.fr F8 (fun b hb h => by change b = m1 at h; omega), (st_fr N5 F57).then F8 fun x hx h => by change x = m1 at h; omega, fun w'' F'' => hv w'' ?_⟩
  have h1 : Fr (fun b => b < w2.heap.size) w3 w7 := (G35.mono fun _ _ h => h.elim : Fr (fun b => b < w2.heap.size) w3 w5).then F57 fun x hx h => by change x = p at h; omega
  have h2 : Fr (fun b => b < w2.heap.size) w3 w8 := h1.then F8 fun x hx h => by change x = m1 at h; omega
  exact h2.then F'' fun x hx h => by omega
end
theorem callPt_ok {R : Ending → World → Prop} {w : World} {f : FuncId} {args : Array Value} {Y : Nat → World → Prop} (hc : Calls Tryz.prog f args w fun e w' => ∃ p, e = .returned (.pointer (some ⟨p, 0, none⟩)) ∧ Y p w') {K : Option Addr → G} (h : ∀ p w', Y p w' → K (some ⟨p, 0, none⟩) R w') : callG Tryz.prog f args [.one .ptr] K R w :=
  call_ok hc fun _ w' ⟨p, he, hy⟩ => ⟨((some ⟨p, 0, none⟩, ()), ()), he, h p w' hy⟩
structure TokRow (w : World) (sl : Sl) (l : List Tok) : Prop where
  n : sl.n = l.length
  len : l.length ≤ 4097
  txt : ∀ t ∈ l, t.text.length < 4611686018427387904
  toks : ∀ (k : Nat) t, l[k]? = some t → ∃ a, sl.a = some a ∧ a.block < w.heap.size ∧ Held w (a.add (k * 3), tokCells t)
theorem TokRow.fr {w w' : World} {sl : Sl} {l : List Tok} (h : TokRow w sl l) (F : Fr noB w w') : TokRow w' sl l :=
  ⟨h.n, h.len, h.txt, fun k t hk => by
    obtain ⟨a, h1, h2, h3⟩ := h.toks k t hk
    exact ⟨a, h1, Nat.lt_of_lt_of_le h2 F.size, F.held h3 fun h => h⟩⟩
def TypP (w : World) (q : Shape) (at' : Nat) (e : Ending) (w' : World) : Prop := ∃ (k : Int) (o n : ByteArray) (ns ps : Sl), e = .returned (.tuple #[shArg k o n ns ps, .int .i64 (at' : Int), .agg #[.int .i64 0, .int .i64 0]]) ∧ Fr noB w w' ∧ ∀ w'', Fr (fun b => b < w.heap.size) w' w'' → ShV w'' k o n ns ps q
theorem begin_ok {w : World} {sl : Sl} {l : List Tok} (T : TokRow w sl l) : Calls Tryz.prog 107 #[.slice sl.a sl.n sl.c, .int .i64 0] w fun e w' => ∃ p, e = .returned (.pointer (some ⟨p, 0, none⟩)) ∧ Cur w' p sl l ⟨0, 0, 0⟩ ∧ w.heap.size ≤ p ∧ Fr noB w w' := by
  have hn := T.n
  have hl := T.len
  apply c107
  unfold t107
  refine new_ok fun w1 m2 hm2 hs1 B1 F1 => ?_
  have C1 : Cur w1 m2 sl l ⟨0, 0, 0⟩ := ⟨B1, hn, by omega, T.txt, Nat.zero_le _, fun k t hk => by
    obtain ⟨a, h1, h2, h3⟩ := T.toks k t hk
    exact ⟨a, h1, by omega, F1.held h3 fun h => h⟩⟩
  refine join1_ok (c := .bool) (fun (b : Bool) w' => b = false ∧ w' = w1) (fun kj hkj => ite_no rfl (hkj _ _ ⟨decide_eq_false (by omega), rfl⟩)) ?_
  rintro b w2 ⟨rfl, rfl⟩
  refine join0_ok (fun w' => w' = w2) (fun kj hkj => ite_no rfl (join_in (vs := []) (ite_no (decide_eq_false (by omega)) (hkj _ rfl)))) ?_
  rintro w3 rfl
  exact ⟨m2, rfl, C1, by omega, F1⟩
set_option maxHeartbeats 2000000 in
theorem Type_ok {w : World} {sl : Sl} {l : List Tok} (T : TokRow w sl l) {q : Shape} {s' : PS} (hW : wholeF l ⟨0, 0, 0⟩ = (q, s')) (he : s'.err = 0) : Calls Tryz.prog 81 #[.slice sl.a sl.n sl.c, .int .i64 0] w (TypP w q s'.at') := by
  apply c81
  unfold t81
  refine new_ok fun w1 m2 hm2 hs1 A1 F1 => new_ok fun w2 m3 hm3 hs2 B2 F2 => ?_
  have G2 := F1.tr F2
  refine callPt_ok (Y := fun p w' => Cur w' p sl l ⟨0, 0, 0⟩ ∧ w2.heap.size ≤ p ∧ Fr noB w2 w') (begin_ok (T.fr G2)) fun p w3 ⟨C3, hp3, F3⟩ => ?_
  refine nn_ok (callB_ok (pbad_ok C3) fun w4 F4 => ite_no rfl ?_)
  have C4 := C3.fr0 F4
  have hw := pwhole_ok C4
  rw [hW] at hw
  refine callPar_ok hw fun k o n ns ps w5 C5 F5 hv => ?_
  have hz3 := F3.size
  have hz4 := F4.size
  have hz5 := F5.size
  have hpw : p < w3.heap.size := C3.b.lt
  refine new_ok fun w6 m22 hm22 hs6 B6 F6 => fill_ok B6 rfl rfl rfl rfl rfl rfl fun w7 B7 F7 => ?_
  change Blk w7 m22 _ (shCells k o n ns ps) at B7
  have G57 : Fr noB w5 w7 := F6.fill (by omega) F7
  have C7 := C5.fr0 G57
  refine nn_ok (callB_ok (pbad_ok C7) fun w8 F8 => ite_no (by rw [he]; rfl) (drew_ok fun w9 F9 z9 => ?_))
  have G79 := F8.tr F9
  have C9 := C7.fr0 G79
  have B9 := B7.fr G79 (fun h => h)
  have G34 := F3.tr F4
  have H59 := G57.tr G79
  have A9 : Blk w9 m2 _ _ := ((A1.fr (F2.tr G34) (fun h => h)).fr F5 (fun h => by change m2 = p at h; omega)).fr H59 (fun h => h)
  have M9 : Blk w9 m3 _ _ := ((B2.fr G34 (fun h => h)).fr F5 (fun h => by change m3 = p at h; omega)).fr H59 (fun h => h)
  refine B9.ldV (nn_ok (C9.b.ld (c := .int .i64) (x := (s'.at' : Int)) (o := 1) rfl (fill_ok A9 rfl rfl rfl rfl rfl rfl fun w10 A10 F10 => ?_)))
  change Blk w10 m2 _ (shCells k o n ns ps) at A10
  have C10 := C9.b.fr F10 (fun h => by change p = m2 at h; omega)
  refine keep_cons (held_one (C10.cell (o := 1) rfl)) (keep_nil ?_)
  have M10 := M9.fr F10 (fun h => by change m3 = m2 at h; omega)
  refine M10.st (o := 0) rfl (by simp) fun w11 M11 F11 => M11.st (o := 1) rfl (by simp) fun w12 M12 F12 => ?_
  have F112 := st_fr F11 F12
  have A12 := A10.fr F112 (fun h => by change m2 = m3 at h; omega)
  have hz2 := G2.size
  have hz1 := F1.size
  have P5 : Fr noB w w5 := (G2.tr G34).then F5 fun x hx h => by change x = p at h; omega
  have P9 : Fr noB w w9 := P5.tr H59
  have P10 : Fr noB w w10 := P9.then F10 fun x hx h => by change x = m2 at h; omega
  have P12 : Fr noB w w12 := P10.then F112 fun x hx h => by change x = m3 at h; omega
  refine A12.ldV (M12.ld (c := .int .i64) (x := (0 : Int)) (o := 0) rfl (M12.ld (c := .int .i64) (x := (0 : Int)) (o := 1) rfl ⟨k, o, n, ns, ps, rfl, P12, fun w'' F'' => hv w'' ?_⟩))
  have h1 : Fr (fun b => b < w4.heap.size) w5 w9 := H59.mono fun _ _ h => h.elim
  have h2 : Fr (fun b => b < w4.heap.size) w5 w10 := h1.then F10 fun x hx h => by change x = m2 at h; omega
  have h3 : Fr (fun b => b < w4.heap.size) w5 w12 := h2.then F112 fun x hx h => by change x = m3 at h; omega
  exact h3.then F'' fun x hx h => by omega
theorem behind_ok {w : World} {sl : Sl} {l : List Tok} (hn : sl.n = l.length) (hl : l.length ≤ 4097) {n : Nat} (h : n + 1 = l.length) : Calls Tryz.prog 82 #[.slice sl.a sl.n sl.c, .int .i64 (n : Int)] w fun e w' => e = .returned (.agg #[.int .i64 0, .int .i64 0]) ∧ Fr noB w w' := by
  apply c82
  unfold t82
  refine new_ok fun w1 m2 hm2 hs1 B1 F1 => ?_
  have ew : IntKind.wrap .i64 (((sl.n : Nat) : Int) - 1) = (n : Int) := by rw [wrap_ok (by omega) (by omega)]; omega
  rw [ew]
  refine ite_no (by simp) (B1.st (o := 0) rfl (by simp) fun w2 B2 F2 => B2.st (o := 1) rfl (by simp) fun w3 B3 F3 => B3.ld (c := .int .i64) (x := (0 : Int)) (o := 0) rfl (B3.ld (c := .int .i64) (x := (0 : Int)) (o := 1) rfl ⟨rfl, F1.fill (by omega) (st_fr F2 F3)⟩))
def TxtP (w : World) (q : Shape) (e : Ending) (w' : World) : Prop := ∃ (k : Int) (o n : ByteArray) (ns ps : Sl), e = .returned (.tuple #[shArg k o n ns ps, .agg #[.int .i64 0, .int .i64 0]]) ∧ Fr noB w w' ∧ ∀ w'', Fr (fun b => b < w.heap.size) w' w'' → ShV w'' k o n ns ps q
theorem callTyp_ok {R : Ending → World → Prop} {w : World} {q : Shape} {i : Nat} {f : FuncId} {args : Array Value} (hc : Calls Tryz.prog f args w (TypP w q i)) {K : Int → ByteArray → ByteArray → Sl → Sl → Int → Int → Int → G}
    (h : ∀ k o n ns ps w', Fr noB w w' → (∀ w'', Fr (fun b => b < w.heap.size) w' w'' → ShV w'' k o n ns ps q) → K k o n ns ps (i : Int) 0 0 R w') : callG Tryz.prog f args [.agg [.int .i64, .str, .str, .slice, .slice], .one (.int .i64), .agg [.int .i64, .int .i64]] K R w :=
  call_ok hc fun _ w' ⟨k, o, n, ns, ps, he, F, hv⟩ => ⟨((k, o, n, ns, ps, ()), (((i : Int), ()), ((0, 0, ()), ()))), he, h k o n ns ps w' F hv⟩
theorem tokRow_own {w0 w : World} {sl : Sl} {l : List Tok} (own : w.ownsRow w0.heap.size 124 3 (.slice sl.a sl.n sl.c) l.length (l.flatMap tokCells)) (hl : l.length ≤ 4097) (ht : ∀ t ∈ l, t.text.length < 4611686018427387904) : TokRow w sl l := by
  obtain ⟨a, n, c⟩ := sl
  rcases own.2 with ⟨h1, h2⟩ | ⟨g, cap, cur, h1, h0, hg, h3, h4, h5, h6⟩
  · cases h1
    have : l = [] := List.eq_nil_of_length_eq_zero h2
    subst this
    exact ⟨rfl, hl, ht, fun k t hk => by simp at hk⟩
  · cases h1
    have hc := own.cells (g := g) rfl
    refine ⟨rfl, hl, ht, fun k t hk => ⟨⟨g, 0, none⟩, rfl, (Array.getElem?_eq_some_iff.1 hg).1, fun j v hj => ?_⟩⟩
    have hj3 : j < 3 := (List.getElem?_eq_some_iff.1 hj).1
    have := hc (k * 3 + j) v (by rw [flat_at tokCells 3 (fun _ _ => rfl) hk j hj3]; exact hj)
    rw [Addr.add_lit] at this
    simp only [Addr.add_lit, Nat.zero_add] at this ⊢
    exact this
set_option maxHeartbeats 2000000 in
theorem TypeText_ok {w : World} (x : ByteArray) (hg : Glob w) {l : List Tok} (hs : scan (bl x) = .ok l) (hl : l.length ≤ 4097) (htx : ∀ t ∈ l, t.text.length < 4611686018427387904) {q : Shape} {s' : PS} (hW : wholeF l ⟨0, 0, 0⟩ = (q, s')) (he : s'.err = 0) (hat : s'.at' + 1 = l.length) :
    Calls Tryz.prog 49 #[.string x] w (TxtP w q) := by
  apply c49
  unfold t49
  refine new_ok fun w1 m1 hm1 hs1 A1 F1 => new_ok fun w2 m2 hm2 hs2 B2 F2 => ?_
  have G2 := F1.tr F2
  have S1 := Scan_ok (w := w2) x (hg.fr G2)
  unfold ScanP at S1
  rw [hs] at S1
  refine callLF_ok (x := 0) (y := 0) (Y := fun sl w' => w'.ownsRow w2.heap.size 124 3 (.slice sl.a sl.n sl.c) l.length (l.flatMap tokCells) ∧ Fr noB w2 w') (S1.mono fun e w' ⟨⟨sl, h1, h2⟩, F⟩ => ⟨sl, h1, h2, F⟩) fun sl w3 ⟨own3, F3⟩ => ?_
  have T3 := tokRow_own own3 hl htx
  refine new_ok fun w4 m6 hm6 hs4 D4 F4 => D4.st (o := 0) rfl (by simp) fun w5 D5 F5 => D5.st (o := 1) rfl (by simp) fun w6 D6 F6 => D6.ld (c := .int .i64) (x := (0 : Int)) (o := 0) rfl (ite_no rfl ?_)
  have G36 : Fr noB w3 w6 := F4.fill (by omega) (st_fr F5 F6)
  have T6 := T3.fr G36
  refine callTyp_ok (Type_ok T6 hW he) fun k o n ns ps w7 F7 hv => ?_
  have G27 := (F3.tr G36).tr F7
  have hz1 := F1.size
  have hz2 := F2.size
  have hz3 := F3.size
  have hz6 := G36.size
  have hz7 := F7.size
  have hm6s := D6.lt
  refine new_ok fun w8 m25 hm25 hs8 E8 F8 => fill_ok E8 rfl rfl rfl rfl rfl rfl fun w9 E9 F9 => ?_
  change Blk w9 m25 _ (shCells k o n ns ps) at E9
  have G79 : Fr noB w7 w9 := F8.fill (by omega) F9
  have D9 := D6.fr (F7.tr G79) (fun h => h)
  refine D9.st (o := 0) rfl (by simp) fun w10 D10 F10 => D10.st (o := 1) rfl (by simp) fun w11 D11 F11 => D11.ld (c := .int .i64) (x := (0 : Int)) (o := 0) rfl ?_
  have F911 := st_fr F10 F11
  refine join0_ok (fun w' => Blk w' m6 66 [.int .i64 0, .int .i64 0] ∧ Fr (oneB m6) w9 w') (fun kj hkj => ite_yes rfl ?_) ?_
  · refine call_ok (behind_ok (w := w11) T6.n hl hat) ?_
    rintro e w12 ⟨rfl, F12⟩
    refine ⟨((0, 0, ()), ()), rfl, ?_⟩
    have D12 := D11.fr F12 (fun h => h)
    exact D12.st (o := 0) rfl (by simp) fun w13 D13 F13 => D13.st (o := 1) rfl (by simp) fun w14 D14 F14 => hkj _ ⟨D14, (F911.then F12 fun _ _ h => h.elim).then (st_fr F13 F14) fun x _ h => h⟩
  rintro w12 ⟨D12, N12⟩
  refine D12.ld (c := .int .i64) (x := (0 : Int)) (o := 0) rfl (ite_no rfl (drew_ok fun w13 F13 z13 => ?_))
  have N13 : Fr (oneB m6) w9 w13 := N12.then F13 fun _ _ h => h.elim
  have E13 := E9.fr N13 (fun h => by change m25 = m6 at h; omega)
  have D13 := D12.fr F13 (fun h => h)
  have hz9 := G79.size
  have hz13 := N13.size
  have G29 := G27.tr G79
  have A13 := ((A1.fr F2 (fun h => h)).fr G29 (fun h => h)).fr N13 (fun h => by change m1 = m6 at h; omega)
  have B13 := (B2.fr G29 (fun h => h)).fr N13 (fun h => by change m2 = m6 at h; omega)
  refine E13.ldV (D13.ld (c := .int .i64) (x := (0 : Int)) (o := 0) rfl (D13.ld (c := .int .i64) (x := (0 : Int)) (o := 1) rfl (fill_ok A13 rfl rfl rfl rfl rfl rfl fun w14 A14 F14 => ?_)))
  change Blk w14 m1 _ (shCells k o n ns ps) at A14
  have D14 := D13.fr F14 (fun h => by change m6 = m1 at h; omega)
  have B14 := B13.fr F14 (fun h => by change m2 = m1 at h; omega)
  refine keep_cons (D14.held fun j v hj => by rw [Nat.zero_add]; exact hj) (keep_nil (B14.st (o := 0) rfl (by simp) fun w15 B15 F15 => B15.st (o := 1) rfl (by simp) fun w16 B16 F16 => ?_))
  have F1416 := st_fr F15 F16
  have A16 := A14.fr F1416 (fun h => by change m1 = m2 at h; omega)
  have P9 : Fr noB w w9 := G2.tr G29
  have P13 : Fr noB w w13 := P9.then N13 fun x hx h => by change x = m6 at h; omega
  have P14 : Fr noB w w14 := P13.then F14 fun x hx h => by change x = m1 at h; omega
  have P16 : Fr noB w w16 := P14.then F1416 fun x hx h => by change x = m2 at h; omega
  refine A16.ldV (B16.ld (c := .int .i64) (x := (0 : Int)) (o := 0) rfl (B16.ld (c := .int .i64) (x := (0 : Int)) (o := 1) rfl ⟨k, o, n, ns, ps, rfl, P16, fun w'' F'' => hv w'' ?_⟩))
  have h1 : Fr (fun b => b < w6.heap.size) w7 w9 := G79.mono fun _ _ h => h.elim
  have h2 : Fr (fun b => b < w6.heap.size) w7 w13 := h1.then N13 fun x hx h => by change x = m6 at h; omega
  have h3 : Fr (fun b => b < w6.heap.size) w7 w14 := h2.then F14 fun x hx h => by change x = m1 at h; omega
  have h4 : Fr (fun b => b < w6.heap.size) w7 w16 := h3.then F1416 fun x hx h => by change x = m2 at h; omega
  exact h4.then F'' fun x hx h => by omega
end Go.Proofs.YticokfpaoiekgaaGreatDoor
end
section
namespace Go.Shp
open Go.Lex Go.Lib
structure Hit where
  of : B
  name : B
  rank : Int
  deriving DecidableEq
def behind (a b : Hit) : Bool := if a.rank ≠ b.rank then decide (a.rank < b.rank) else if a.of ≠ b.of then ltB b.of a.of else ltB b.name a.name
theorem behind_irr (a : Hit) : behind a a = false := by
  unfold behind
  rw [if_neg (by simp), if_neg (by simp)]
  exact ltB_irr _
theorem ltB_asym {a b : B} (h : ltB a b = true) : ltB b a = false := by
  rw [Bool.eq_false_iff]
  intro h2
  have := ltB_trans h h2
  rw [ltB_irr] at this
  cases this
theorem behind_asym {a b : Hit} (h : behind a b = true) : behind b a = false := by
  unfold behind at h ⊢
  by_cases h1 : a.rank = b.rank
  · rw [if_neg (by simp [h1])] at h
    rw [if_neg (by simp [h1])]
    by_cases h2 : a.of = b.of
    · rw [if_neg (by simp [h2])] at h
      rw [if_neg (by simp [h2])]
      exact ltB_asym h
    · rw [if_pos h2] at h
      rw [if_pos (Ne.symm h2)]
      exact ltB_asym h
  · rw [if_pos h1] at h
    rw [if_pos (Ne.symm h1)]
    have := of_decide_eq_true h
    exact decide_eq_false (by omega)
theorem behind_trans {a b c : Hit} (h1 : behind a b = true) (h2 : behind b c = true) : behind a c = true := by
  unfold behind at h1 h2 ⊢
  by_cases e1 : a.rank = b.rank
  · rw [if_neg (by simp [e1])] at h1
    by_cases e2 : b.rank = c.rank
    · rw [if_neg (by simp [e2])] at h2
      rw [if_neg (by simp [e1, e2])]
      by_cases o1 : a.of = b.of
      · rw [if_neg (by simp [o1])] at h1
        by_cases o2 : b.of = c.of
        · rw [if_neg (by simp [o2])] at h2
          rw [if_neg (by simp [o1, o2])]
          exact ltB_trans h2 h1
        · rw [if_pos o2] at h2
          rw [if_pos (by rw [o1]; exact o2), o1]
          exact h2
      · rw [if_pos o1] at h1
        by_cases o2 : b.of = c.of
        · rw [if_pos (by rw [← o2]; exact o1), ← o2]
          exact h1
        · rw [if_pos o2] at h2
          have h3 := ltB_trans h2 h1
          rw [if_pos (fun e => by rw [e, ltB_irr] at h3; cases h3)]
          exact h3
    · rw [if_pos e2] at h2
      rw [if_pos (by rw [e1]; exact e2), e1]
      exact h2
  · rw [if_pos e1] at h1
    have l1 := of_decide_eq_true h1
    by_cases e2 : b.rank = c.rank
    · rw [if_pos (by omega)]
      exact decide_eq_true (by omega)
    · rw [if_pos e2] at h2
      have l2 := of_decide_eq_true h2
      rw [if_pos (by omega)]
      exact decide_eq_true (by omega)
theorem behind_tri {a b : Hit} (h1 : behind a b = false) (h2 : behind b a = false) : a = b := by
  unfold behind at h1 h2
  by_cases e1 : a.rank = b.rank
  · rw [if_neg (by simp [e1])] at h1 h2
    by_cases o1 : a.of = b.of
    · rw [if_neg (by simp [o1])] at h1 h2
      have : a.name = b.name := by
        by_cases hn : a.name = b.name
        · exact hn
        · rw [ltB_tri hn h2] at h1
          cases h1
      cases a; cases b
      simp only at e1 o1 this
      subst e1 o1 this
      rfl
    · rw [if_pos o1] at h1
      rw [if_pos (Ne.symm o1)] at h2
      rw [ltB_tri o1 h2] at h1
      cases h1
  · rw [if_pos e1] at h1
    rw [if_pos (Ne.symm e1)] at h2
    have l1 := of_decide_eq_false h1
    have l2 := of_decide_eq_false h2
    omega
def Down (l : List Hit) : Prop := l.Pairwise fun x y => behind x y = false
def insH (h : Hit) : List Hit → List Hit
  | [] => [h]
  | x :: r => if behind x h then h :: x :: r else x :: insH h r
def sortH (l : List Hit) : List Hit := l.foldl (fun a h => insH h a) []
theorem insH_perm (h : Hit) : ∀ l : List Hit, (insH h l).Perm (h :: l)
  | [] => List.Perm.refl _
  | x :: r => by
    unfold insH
    split
    · exact List.Perm.refl _
    · exact ((insH_perm h r).cons _).trans (List.Perm.swap _ _ _)
theorem insH_down {h : Hit} : ∀ {l : List Hit}, Down l → Down (insH h l)
  | [], _ => List.pairwise_singleton _ _
  | x :: r, hd => by
    unfold Down at hd ⊢
    rw [List.pairwise_cons] at hd
    unfold insH
    by_cases hb : behind x h = true
    · rw [if_pos hb, List.pairwise_cons, List.pairwise_cons]
      refine ⟨fun y hy => ?_, hd.1, hd.2⟩
      rcases List.mem_cons.1 hy with rfl | hy
      · exact behind_asym hb
      · rw [Bool.eq_false_iff]
        intro h2
        have h3 := behind_trans hb h2
        rw [hd.1 y hy] at h3
        cases h3
    · rw [if_neg hb, List.pairwise_cons]
      refine ⟨fun y hy => ?_, insH_down hd.2⟩
      rcases List.mem_cons.1 ((insH_perm h r).mem_iff.1 hy) with rfl | hy
      · simpa using hb
      · exact hd.1 y hy
theorem sortH_go : ∀ (l a : List Hit), Down a → Down (l.foldl (fun a h => insH h a) a) ∧ (l.foldl (fun a h => insH h a) a).Perm (a ++ l)
  | [], a, h => ⟨h, by simp⟩
  | x :: l, a, h => by
    obtain ⟨h1, h2⟩ := sortH_go l (insH x a) (insH_down h)
    refine ⟨h1, h2.trans ?_⟩
    exact ((insH_perm x a).append_right l).trans (List.perm_middle.symm)
theorem sortH_down (l : List Hit) : Down (sortH l) := (sortH_go l [] List.Pairwise.nil).1
theorem sortH_perm (l : List Hit) : (sortH l).Perm l := by
  have := (sortH_go l [] List.Pairwise.nil).2
  rw [List.nil_append] at this
  exact this
theorem down_unique : ∀ {l m : List Hit}, Down l → Down m → l.Perm m → l = m
  | [], m, _, _, h => (List.nil_perm.1 h).symm
  | x :: l, [], _, _, h => by have := h.length_eq; simp at this
  | x :: l, y :: m, hl, hm, h => by
    unfold Down at hl hm
    rw [List.pairwise_cons] at hl hm
    have hxy : x = y := by
      have hx : x ∈ y :: m := h.mem_iff.1 List.mem_cons_self
      have hy : y ∈ x :: l := h.mem_iff.2 List.mem_cons_self
      rcases List.mem_cons.1 hx with e | hx
      · exact e
      rcases List.mem_cons.1 hy with e | hy
      · exact e.symm
      exact behind_tri (hl.1 y hy) (hm.1 x hx)
    subst hxy
    rw [down_unique hl.2 hm.2 (List.Perm.cons_inv h)]
theorem down_sortH {l m : List Hit} (hm : Down m) (h : m.Perm l) : m = sortH l := down_unique hm (sortH_down l) (h.trans (sortH_perm l).symm)
end Go.Shp
end
section
namespace Go.Shp
open Go.Lex
theorem gt_ltB (a b : B) : (!(ltB a b || a == b)) = ltB b a := by
  by_cases h : a = b
  · subst h
    rw [ltB_irr, beq_self_eq_true]
    rfl
  · rw [beq_eq_false_iff_ne.2 h, Bool.or_false]
    cases h1 : ltB a b with
    | true => rw [ltB_asym h1]; rfl
    | false => rw [ltB_tri h h1]; rfl
end Go.Shp
namespace Go.Proofs.YticokfpaoiekgaaGreatDoor
open Go.Lift Go.Lex Go.Shp
def hitCells (o n : ByteArray) (r : Int) : List Value := [.string o, .string n, .int .i64 r]
end Go.Proofs.YticokfpaoiekgaaGreatDoor
end
section
namespace Go.Proofs.YticokfpaoiekgaaGreatDoor
open Go.Lift Go.Lex Go.Shp
abbrev HV3 := ByteArray × ByteArray × Int
def hvCells (v : HV3) : List Value := hitCells v.1 v.2.1 v.2.2
def hvHit (v : HV3) : Hit := ⟨bl v.1, bl v.2.1, v.2.2⟩
theorem hv_one {V : List HV3} : ∀ u ∈ V.flatMap hvCells, u.oneCell' = true := by
  intro u hu
  obtain ⟨v, _, hv⟩ := List.mem_flatMap.1 hu
  simp only [hvCells, hitCells, List.mem_cons, List.not_mem_nil, or_false] at hv
  rcases hv with rfl | rfl | rfl <;> rfl
theorem infoHit : infoSays Tryz.prog 46 3 40 3 := infoSays_of (by kernel_rfl)
theorem uHits : Tryz.prog.underlying 32 = some (.slice 46) := by kernel_rfl
end Go.Proofs.YticokfpaoiekgaaGreatDoor
end
section
namespace Go.Shp
open Go.Lex
def hasAt (s x : B) (i : Nat) : Bool := decide (i + x.length ≤ s.length) && (s.drop i).take x.length == x
def namedR (s x : B) : Nat := if s == x then 3 else if hasAt s x 0 then 2 else if (List.range (s.length + 1)).any (hasAt s x) then 1 else 0
end Go.Shp
namespace Go.Proofs.YticokfpaoiekgaaGreatDoor
open Go.Lift Go.Lex Go.Shp
end Go.Proofs.YticokfpaoiekgaaGreatDoor
end
section
namespace Go.Shp
open Go.Lex
structure Thing where
  kind : Int
  name : B
  shape : Shape
structure Dep where
  name : B
  items : List Thing
def itHit (q : Thing → Int) (d : B) (it : Thing) : Option Hit := if q it < 1 then none else some ⟨d, it.name, q it⟩
def dHits (q : Thing → Int) (d : B) (l : List Thing) : List Hit := l.filterMap (itHit q d)
def hitsOf (q : Thing → Int) (D : List Dep) : List Hit := D.flatMap fun d => dHits q d.name d.items
theorem dHits_snoc (q : Thing → Int) (d : B) (l : List Thing) (it : Thing) : dHits q d (l ++ [it]) = dHits q d l ++ (itHit q d it).toList := by
  unfold dHits
  rw [List.filterMap_append]
  cases h : itHit q d it with
  | none => simp [h]
  | some y => simp [h]
theorem hitsOf_snoc (q : Thing → Int) (D : List Dep) (d : Dep) : hitsOf q (D ++ [d]) = hitsOf q D ++ dHits q d.name d.items := by
  unfold hitsOf
  rw [List.flatMap_append, List.flatMap_cons, List.flatMap_nil, List.append_nil]
def itemsN (D : List Dep) : Nat := (D.map fun d => d.items.length).sum
theorem dHits_len (q : Thing → Int) (d : B) (l : List Thing) : (dHits q d l).length ≤ l.length := List.length_filterMap_le _ _
theorem hitsOf_len (q : Thing → Int) : ∀ D : List Dep, (hitsOf q D).length ≤ itemsN D
  | [] => Nat.le_refl _
  | d :: D => by
    have h1 := hitsOf_len q D
    have h2 := dHits_len q d.name d.items
    unfold hitsOf itemsN at *
    rw [List.flatMap_cons, List.length_append, List.map_cons, List.sum_cons]
    omega
theorem itemsN_take : ∀ (D : List Dep) (i : Nat) (d : Dep), D[i]? = some d → itemsN (D.take i) + d.items.length ≤ itemsN D
  | [], i, d, h => by simp at h
  | x :: D, 0, d, h => by
    simp only [List.getElem?_cons_zero, Option.some.injEq] at h
    subst h
    unfold itemsN
    rw [List.take_zero, List.map_nil, List.sum_nil, List.map_cons, List.sum_cons]
    omega
  | x :: D, i + 1, d, h => by
    have := itemsN_take D i d (by simpa using h)
    unfold itemsN at *
    rw [List.take_succ_cons, List.map_cons, List.map_cons, List.sum_cons, List.sum_cons]
    omega
end Go.Shp
namespace Go.Lift
open Go.Shp Go.Lex
def itCells (kd : Int) (nm : ByteArray) (k : Int) (o n : ByteArray) (ns ps : Sl) : List Value := [.int .i64 kd, .string nm, .int .i64 k, .string o, .string n, .slice ns.a ns.n ns.c, .slice ps.a ps.n ps.c]
def ItV (w : World) (kd : Int) (nm : ByteArray) (k : Int) (o n : ByteArray) (ns ps : Sl) (it : Thing) : Prop := kd = it.kind ∧ bl nm = it.name ∧ nm.size < 4611686018427387904 ∧ ShV w k o n ns ps it.shape
def ItL (w : World) (a : Option Addr) (l : List Thing) : Prop := ∀ (i : Nat) it, l[i]? = some it → ∃ (g off : Nat) (kd : Int) (nm : ByteArray) (k : Int) (o n : ByteArray) (ns ps : Sl), a = some ⟨g, off, none⟩ ∧ Held w (⟨g, off + i * 7, none⟩, itCells kd nm k o n ns ps) ∧ ItV w kd nm k o n ns ps it
def DpV (w : World) (nm : ByteArray) (its : Sl) (d : Dep) : Prop := bl nm = d.name ∧ nm.size < 4611686018427387904 ∧ its.n = d.items.length ∧ d.items.length < 4611686018427387904 ∧ ItL w its.a d.items
def DpL (w : World) (a : Option Addr) (D : List Dep) : Prop := ∀ (i : Nat) d, D[i]? = some d → ∃ (g off : Nat) (nm : ByteArray) (its : Sl), a = some ⟨g, off, none⟩ ∧ w.cell? ⟨g, off + i * 2, none⟩ = some (.string nm) ∧ w.cell? ⟨g, off + i * 2 + 1, none⟩ = some (.slice its.a its.n its.c) ∧ DpV w nm its d
def DpR (w : World) (s : Sl) (D : List Dep) : Prop := s.n = D.length ∧ D.length < 4611686018427387904 ∧ DpL w s.a D
section
variable {w w' : World}
theorem ItV.fr {kd : Int} {nm : ByteArray} {k : Int} {o n : ByteArray} {ns ps : Sl} {it : Thing} (h : ItV w kd nm k o n ns ps it) (F : Fr noB w w') : ItV w' kd nm k o n ns ps it := ⟨h.1, h.2.1, h.2.2.1, h.2.2.2.fr F⟩
theorem ItL.fr {a : Option Addr} {l : List Thing} (h : ItL w a l) (F : Fr noB w w') : ItL w' a l := fun i it hi => by
  obtain ⟨g, off, kd, nm, k, o, n, ns, ps, h1, h2, h3⟩ := h i it hi
  exact ⟨g, off, kd, nm, k, o, n, ns, ps, h1, F.held h2 (fun h => h), h3.fr F⟩
theorem DpV.fr {nm : ByteArray} {its : Sl} {d : Dep} (h : DpV w nm its d) (F : Fr noB w w') : DpV w' nm its d := ⟨h.1, h.2.1, h.2.2.1, h.2.2.2.1, h.2.2.2.2.fr F⟩
theorem DpL.fr {a : Option Addr} {D : List Dep} (h : DpL w a D) (F : Fr noB w w') : DpL w' a D := fun i d hi => by
  obtain ⟨g, off, nm, its, h1, h2, h3, h4⟩ := h i d hi
  exact ⟨g, off, nm, its, h1, F.cell h2 (fun h => h), F.cell h3 (fun h => h), h4.fr F⟩
theorem DpR.fr {s : Sl} {D : List Dep} (h : DpR w s D) (F : Fr noB w w') : DpR w' s D := ⟨h.1, h.2.1, h.2.2.fr F⟩
variable {R : Ending → World → Prop}
theorem held_ld {g o : Nat} {l : List Value} {j : Nat} {c : CT} {x : c.T} {K : c.T → G} (h : Held w (⟨g, o, none⟩, l)) (hj : l[j]? = some (c.val x)) (hk : K x R w) : ldG c ⟨g, o + j, none⟩ K R w := by
  have := h j _ hj
  rw [Addr.add_lit] at this
  exact ld_ok this hk
theorem item_ld {a : Option Addr} {l : List Thing} {len i : Nat} {it : Thing} {K : Int → ByteArray → Int → ByteArray → ByteArray → Sl → Sl → G} (h : ItL w a l) (hi : l[i]? = some it) (hl : len = l.length) (hk : ∀ kd nm k o n ns ps, ItV w kd nm k o n ns ps it → K kd nm k o n ns ps R w) :
    idxG a len (i : Int) 7 (fun (x : Addr) => ldG (.int .i64) (x.add 0) fun (kd : Int) => ldG .str (x.add 1) fun (nm : ByteArray) => ldG (.int .i64) (x.add 2) (fun (k : Int) => ldG .str (x.add 3) (fun (o : ByteArray) => ldG .str (x.add 4) (fun (n : ByteArray) => ldG .slice (x.add 5) (fun (ns : Sl) => ldG .slice (x.add 6) (fun (ps : Sl) => K kd nm k o n ns ps)))))) R w := by
  obtain ⟨g, off, kd, nm, k, o, n, ns, ps, rfl, h2, h3⟩ := h i it hi
  have hil := (List.getElem?_eq_some_iff.1 hi).1
  refine idxB_ok (n := len) (i := i) (by omega) ?_
  simp only [Addr.add_lit]
  exact held_ld (c := .int .i64) (j := 0) h2 rfl (held_ld (c := .str) (j := 1) h2 rfl (held_ld (c := .int .i64) (j := 2) h2 rfl (held_ld (c := .str) (j := 3) h2 rfl (held_ld (c := .str) (j := 4) h2 rfl (held_ld (c := .slice) (x := ns) (j := 5) h2 rfl (held_ld (c := .slice) (x := ps) (j := 6) h2 rfl (hk kd nm k o n ns ps h3)))))))
theorem fill7_ok {m : Nat} {t : TypeId} {l : List Value} {v0 v1 v2 v3 v4 v5 v6 : Value} {k : G} (B : Blk w m t l) (hl : l.length = 7) (h0 : v0.oneCell' = true) (h1 : v1.oneCell' = true) (h2 : v2.oneCell' = true) (h3 : v3.oneCell' = true) (h4 : v4.oneCell' = true) (h5 : v5.oneCell' = true) (h6 : v6.oneCell' = true)
    (hk : ∀ w', Blk w' m t [v0, v1, v2, v3, v4, v5, v6] → Fr (oneB m) w w' → k R w') : stG ⟨m, 0, none⟩ v0 (stG ⟨m, 1, none⟩ v1 (stG ⟨m, 2, none⟩ v2 (stG ⟨m, 3, none⟩ v3 (stG ⟨m, 4, none⟩ v4 (stG ⟨m, 5, none⟩ v5 (stG ⟨m, 6, none⟩ v6 k)))))) R w := by
  match l, hl with
  | [a, b, c, d, e, f, g], _ =>
    refine B.st h0 (by simp) fun w1 B1 F1 => B1.st h1 (by simp) fun w2 B2 F2 => B2.st h2 (by simp) fun w3 B3 F3 => B3.st h3 (by simp) fun w4 B4 F4 => B4.st h4 (by simp) fun w5 B5 F5 => B5.st h5 (by simp) fun w6 B6 F6 => B6.st h6 (by simp) fun w7 B7 F7 => ?_
    exact hk _ B7 (st_fr (st_fr (st_fr (st_fr (st_fr (st_fr F1 F2) F3) F4) F5) F6) F7)
theorem Blk.ldI {m : Nat} {t : TypeId} {kd : Int} {nm : ByteArray} {k : Int} {o n : ByteArray} {ns ps : Sl} (B : Blk w m t (itCells kd nm k o n ns ps)) {K : Int → ByteArray → ByteArray → Sl → Sl → G} (h : K k o n ns ps R w) :
    ldG (.int .i64) ⟨m, 2, none⟩ (fun (k : Int) => ldG .str ⟨m, 3, none⟩ (fun (o : ByteArray) => ldG .str ⟨m, 4, none⟩ (fun (n : ByteArray) => ldG .slice ⟨m, 5, none⟩ (fun (ns : Sl) => ldG .slice ⟨m, 6, none⟩ (fun (ps : Sl) => K k o n ns ps))))) R w :=
  B.ld (c := .int .i64) (x := k) (o := 2) rfl (B.ld (c := .str) (x := o) (o := 3) rfl (B.ld (c := .str) (x := n) (o := 4) rfl (B.ldS (o := 5) rfl (B.ldS (o := 6) rfl h))))
theorem dep_ld {w0 : World} {s : Sl} {D : List Dep} {i : Nat} {d : Dep} {K : ByteArray → Sl → G} (h : DpR w0 s D) (F : Fr noB w0 w) (hi : D[i]? = some d) (hk : ∀ nm its, DpV w0 nm its d → K nm its R w) : idxG s.a s.n (i : Int) 2 (fun (x : Addr) => ldG .str (x.add 0) fun (nm : ByteArray) => ldG .slice (x.add 1) (K nm)) R w := by
  obtain ⟨hn, _, h⟩ := h
  obtain ⟨g, off, nm, its, h1, h2, h3, h4⟩ := h i d hi
  have hil := (List.getElem?_eq_some_iff.1 hi).1
  rw [h1]
  refine idxB_ok (n := s.n) (i := i) (by omega) ?_
  simp only [Addr.add_lit, Nat.add_zero]
  exact ld_ok (c := .str) (F.cell h2 fun h => h) (ld_ok (c := .slice) (x := its) (F.cell h3 fun h => h) (hk nm its h4))
end
theorem countS_ok {body : (Sl → Int → G) → Sl → Int → G} {R : Ending → World → Prop} {w : World} (n : Nat) (hn : n ≤ 9223372036854775807) (I : Nat → Sl → World → Prop)
    (hbody : ∀ (rec : Sl → Int → G) (k : Nat) (l : Sl) (w : World), k ≤ n → I k l w → (k < n → ∀ l' w', I (k + 1) l' w' → rec l' (IntKind.wrap .i64 ((k : Int) + 1)) R w') → body rec l (k : Int) R w)
    {l : Sl} (h : I 0 l w) : loopG [.one .slice, .one (.int .i64)] body l (0 : Int) R w := by
  refine loop_ok (vs := [.one .slice, .one (.int .i64)]) (body := body) (fun xs w' => ∃ k : Nat, (show Int from xs.2.1.1) = (k : Int) ∧ k ≤ n ∧ I k (show Sl from xs.1.1) w') (fun xs => n - (show Int from xs.2.1.1).toNat) ?_ (xs := ((l, ()), (((0 : Int), ()), ()))) ⟨0, rfl, Nat.zero_le _, h⟩
  rintro rec ⟨⟨l1, ⟨⟩⟩, ⟨⟨i, ⟨⟩⟩, ⟨⟩⟩⟩ w1 ⟨k, hi, hk, hI⟩ hrec
  change Sl at l1
  change Int at i
  change i = _ at hi
  subst hi
  refine hbody rec k l1 w1 hk hI fun hlt l' w' hI' => ?_
  have e : IntKind.wrap .i64 ((k : Int) + 1) = ((k + 1 : Nat) : Int) := by rw [wrap_ok (by omega) (by omega)]; omega
  rw [e]
  exact hrec ((l', ()), ((((k + 1 : Nat) : Int), ()), ())) w' ⟨k + 1, rfl, by omega, hI'⟩ (by show n - ((k + 1 : Nat) : Int).toNat < n - ((k : Nat) : Int).toNat; simp only [Int.toNat_natCast]; omega)
end Go.Lift
end
