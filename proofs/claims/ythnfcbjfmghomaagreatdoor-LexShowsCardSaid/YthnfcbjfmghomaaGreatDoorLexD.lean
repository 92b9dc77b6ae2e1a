/- The scanner's place, faults and tokens. No condition. -/
import Derived.Test.YthnfcbjfmghomaaGreatDoorLexC
namespace Go.Lift
/-- behind a place -/
def bh (b : Nat) : Nat → Prop := fun k => b ≤ k
theorem Fr.sq {S : Nat → Prop} {a b c : World} (h : Fr S a b) (k : Fr S b c) : Fr S a c := h.then k fun _ _ h => h
theorem Fr.up {a c : World} (h : Fr noB a c) (b : Nat) : Fr (bh b) a c := h.mono fun _ _ h => h.elim
theorem Fr.one {a c : World} {b : Nat} (h : Fr (oneB b) a c) : Fr (bh b) a c := h.mono fun _ _ h => by unfold oneB at h; unfold bh; omega
theorem own_ne {w : World} {base e sz n m : Nat} {t : TypeId} {s : Sl} {xs l : List Value} (h : w.ownsRow base e sz (.slice s.a s.n s.c) n xs) (B : Blk w m t l) (ht : t ≠ e) : ∀ k, (Value.slice s.a s.n s.c).ownBlock = some k → m ≠ k := by
  rintro k hk rfl
  rcases h.2 with ⟨h, _⟩ | ⟨g, cap, cur, h, _, hg, _⟩
  · rw [h] at hk; cases hk
  · rw [h] at hk
    cases hk
    unfold Blk at B
    rw [hg] at B
    simp only [Option.some.injEq, Obj.cells.injEq] at B
    exact ht B.2.1.symm
section
variable {P : Program} {R : Ending → World → Prop} {w : World}
/-- a loop, by a measure of the worlds too -/
theorem loopN_ok {vs : List VT} {body : CurV G vs → CurV G vs} (I : Nat → HV vs → World → Prop)
    (hbody : ∀ (n : Nat) (rec : CurV G vs) (xs : HV vs) (w : World), I n xs w → (∀ m ys w', m < n → I m ys w' → uncV rec ys R w') → uncV (body rec) xs R w)
    {n : Nat} {xs : HV vs} (h : I n xs w) : uncV (loopG vs body) xs R w := by
  refine reV ?_
  have key : ∀ f n xs w, I n xs w → n < f → uncV (iterG vs body f) xs R w := by
    intro f
    induction f with
    | zero => intro n xs w _ hn; omega
    | succ f ih =>
      intro n xs w hI hn
      exact hbody n _ xs w hI fun m ys w' hlt hy => ih m ys w' hy (by omega)
  exact ⟨n + 1, key _ n xs w h (Nat.lt_succ_self _)⟩
theorem loop0_ok {body : G → G} (I : Nat → World → Prop) (hbody : ∀ (n : Nat) (rec : G) (w : World), I n w → (∀ m w', m < n → I m w' → rec R w') → body rec R w) {n : Nat} (h : I n w) : loopG [] body R w :=
  loopN_ok (vs := []) (body := body) (fun n _ w => I n w) (fun n rec _ w hI hr => hbody n rec w hI fun m w' hl hm => hr m () w' hl hm) (xs := ()) h
theorem callLF_ok {f : FuncId} {args : Array Value} {Y : Sl → World → Prop} {x y : Int} (hc : Calls P f args w fun en w' => ∃ sl : Sl, en = .returned (.tuple #[.slice sl.a sl.n sl.c, .agg #[.int .i64 x, .int .i64 y]]) ∧ Y sl w')
    {k : Sl → Int → Int → G} (h : ∀ sl w', Y sl w' → k sl x y R w') : callG P f args [.one .slice, .agg [.int .i64, .int .i64]] k R w :=
  call_ok hc fun _ w' ⟨sl, he, hy⟩ => ⟨((sl, ()), (x, y, ()), ()), he, h sl w' hy⟩
theorem callU8_ok {f : FuncId} {args : Array Value} {n : Int} {Y : World → Prop} (hc : Calls P f args w fun e w' => e = .returned (.int .u8 n) ∧ Y w') {k : Int → G} (h : ∀ w', Y w' → k n R w') : callG P f args [.one (.int .u8)] k R w :=
  call_ok hc fun _ w' ⟨he, hy⟩ => ⟨((n, ()), ()), he, h w' hy⟩
/-- append, with the row that it writes by name -/
theorem appendC_ok {base : Nat} {t ty e : TypeId} {i : TypeInfo} {z : Value} {size bytes : Nat} (ht : P.underlying t = some (.slice e)) (hi : P.info? e = some i) (hz : i.zero = some z)
    (hsize : i.size = size) (hby : i.bytes = bytes) (hzs : z.cells.size = size) (hsz : 0 < size) {s : Sl} {n : Nat} {xs : List Value} (hown : w.ownsRow base e size (.slice s.a s.n s.c) n xs)
    {ad : Addr} {m c : Nat} {news : List Value} (hl : news.length = m * size) (hnews : Held w (ad, news)) (h1 : ∀ u ∈ news, u.oneCell' = true)
    (h63 : n + m ≤ maxLen) (hbytes : (n + m) * bytes ≤ 140737488355328) (hb : base ≤ w.heap.size) {k : Sl → G}
    (h : ∀ (s' : Sl) w', w'.ownsRow base e size (.slice s'.a s'.n s'.c) (n + m) (xs ++ news) → Fr (fun k => (Value.slice s.a s.n s.c).ownBlock = some k) w w' → k s' R w') :
    opG P (Builtin.append_ #[t, t] ty #[.slice s.a s.n s.c, .slice (some ad) m c]) (.one .slice) k R w := by
  obtain ⟨v', w', hr, h2, h3, _⟩ := run_append_own (P := P) w base t ty e i z size bytes ht hi hz hsize hby hzs hsz _ n xs hown ad m c news hl hnews h1 h63 hbytes hb
  obtain ⟨s', rfl, _, _⟩ := slice_of_own h2
  exact ⟨(s', ()), w', hr, h s' w' h2 (Fr.of_grown h3)⟩
end
end Go.Lift
namespace Go.Lex
theorem utfBadF_le : ∀ (f : Nat) (s : B) (k : Nat), utfBadF f s = some k → k ≤ s.length
  | 0, s, k, h => by simp [utfBadF] at h
  | f + 1, [], k, h => by simp [utfBadF] at h
  | f + 1, a :: r, k, h => by
    have hl := utfLen_le (a :: r)
    unfold utfBadF at h
    cases hu : utfLen (a :: r) with
    | zero => rw [hu] at h; simp only [Option.some.injEq] at h; omega
    | succ n =>
      rw [hu] at h
      simp only [Option.map_eq_some_iff] at h
      obtain ⟨j, hj, rfl⟩ := h
      have := utfBadF_le f _ j hj
      rw [List.length_drop] at this
      omega
theorem utfBad_le {s : B} {k : Nat} (h : utfBad s = some k) : k ≤ s.length := utfBadF_le _ _ _ h
end Go.Lex
namespace Go.Proofs.YthnfcbjfmghomaaGreatDoor
open Go.Lift Go.Lex
/-- the library's variables lie before a place, and are as they were -/
def GlobB (b : Nat) (w : World) : Prop := ∃ w0, Glob w0 ∧ Fr noB w0 w ∧ w0.heap.size ≤ b
theorem GlobB.fr {b : Nat} {w w' : World} (h : GlobB b w) (F : Fr (bh b) w w') : GlobB b w' := by
  obtain ⟨w0, g, F0, hb⟩ := h
  exact ⟨w0, g, F0.then F fun x hx h => by unfold bh at h; omega, hb⟩
theorem GlobB.glob {b : Nat} {w : World} (h : GlobB b w) : Glob w := by
  obtain ⟨w0, g, F0, hb⟩ := h
  exact g.fr F0
theorem GlobB.of {w0 w : World} (g : Glob w0) (F : Fr noB w0 w) {b : Nat} (hb : w0.heap.size ≤ b) : GlobB b w := ⟨w0, g, F, hb⟩
def tokCells (t : Tok) : List Value := [.int .i64 (t.kind : Int), .string (bs t.text), .int .i64 (t.at' : Int)]
theorem uToks : Tryz.prog.underlying 24 = some (.slice 32) := by kernel_rfl
theorem rTok : rowSays Tryz.prog 32 3 32 #[.int .i64 0, .string ⟨#[]⟩, .int .i64 0] := rowSays_of (by kernel_rfl)
/-- the scanner at its block -/
def St (w : World) (b : Nat) (s : ByteArray) (i : Nat) (acc : List Tok) (e a : Int) : Prop :=
  ∃ l : Sl, Blk w b 48 [.string s, .int .i64 (i : Int), .slice l.a l.n l.c, .int .i64 e, .int .i64 a] ∧ w.ownsRow (b + 1) 32 3 (.slice l.a l.n l.c) acc.length (acc.flatMap tokCells)
theorem St.fr {w w' : World} {b : Nat} {s : ByteArray} {i : Nat} {acc : List Tok} {e a : Int} (h : St w b s i acc e a) (F : Fr noB w w') : St w' b s i acc e a := by
  obtain ⟨l, B, h⟩ := h
  exact ⟨l, B.fr F (fun h => h), own_fr0 h F⟩
/-- a step that writes the scanner's block alone -/
theorem own_one {w w' : World} {b n : Nat} {v : Value} {xs : List Value} (h : w.ownsRow (b + 1) 32 3 v n xs) (F : Fr (oneB b) w w') : w'.ownsRow (b + 1) 32 3 v n xs :=
  own_fr h F fun k hk e => by have := (h.lt k hk).1; unfold oneB at e; omega
section
variable {w : World} {b : Nat} {t : TypeId} {s : ByteArray} {i : Nat}
theorem peek_ok {k : Nat} {tl : List Value} (B : Blk w b t (.string s :: .int .i64 (i : Int) :: tl)) (_ : s.size ≤ 1000000) (hi : i + k ≤ 2000000) :
    Calls Tryz.prog 32 #[.pointer (some ⟨b, 0, none⟩), .int .i64 (k : Int)] w fun e w' => e = .returned (.int .u8 ((((bl s).getD (i + k) 0).toNat : Nat) : Int)) ∧ Fr noB w w' := by
  have hsl := bl_length s
  apply c32
  unfold t32
  refine drew_ok fun w1 F1 z1 => ?_
  have B1 := B.fr F1 (fun h => h)
  refine nn_ok (B1.ld (o := 1) rfl (nn_ok (B1.ld (o := 0) rfl ?_)))
  rw [wrap_ok (n := (i : Int) + (k : Int)) (by omega) (by omega)]
  refine ite_ok (fun h => ⟨?_, F1⟩) fun h => ?_
  · have h : ((i : Int) + (k : Int)) ≥ (s.size : Int) := of_decide_eq_true h
    rw [List.getD_eq_getElem?_getD, List.getElem?_eq_none (by omega)]
    rfl
  · have h : ¬ ((i : Int) + (k : Int)) ≥ (s.size : Int) := of_decide_eq_false h
    refine drew_ok fun w2 F2 z2 => ?_
    have B2 := B1.fr F2 (fun h => h)
    refine nn_ok (B2.ld (o := 0) rfl (nn_ok (B2.ld (o := 1) rfl ?_)))
    rw [wrap_ok (n := (i : Int) + (k : Int)) (by omega) (by omega)]
    have e1 : (i : Int) + (k : Int) = ((i + k : Nat) : Int) := by omega
    rw [e1]
    refine chr_ok (by omega) ⟨?_, F1.tr F2⟩
    rw [List.getD_eq_getElem?_getD, List.getElem?_eq_getElem (by omega)]
    rfl
theorem while_ok {tl : List Value} (B : Blk w b t (.string s :: .int .i64 (i : Int) :: tl)) (hs : s.size ≤ 1000000) (hi : i ≤ s.size) {fv : Value} {p : UInt8 → Bool} (hp : PredV fv p) :
    Calls Tryz.prog 33 #[.pointer (some ⟨b, 0, none⟩), fv] w fun e w' =>
      e = .returned (.string (bs (((bl s).drop i).takeWhile p))) ∧ Blk w' b t (.string s :: .int .i64 (((i + (((bl s).drop i).takeWhile p).length : Nat)) : Int) :: tl) ∧ Fr (oneB b) w w' := by
  have hsl := bl_length s
  apply c33
  unfold t33
  refine nn_ok (B.ld (o := 1) rfl ?_)
  refine join0_ok (fun w' => Blk w' b t (.string s :: .int .i64 (((i + (((bl s).drop i).takeWhile p).length : Nat)) : Int) :: tl) ∧ Fr (oneB b) w w') (fun kend hkend => ?_) ?_
  · refine loop0_ok (fun m w' => ∃ n : Nat, m = s.size - n ∧ i + n ≤ s.size ∧ Blk w' b t (.string s :: .int .i64 (((i + n : Nat)) : Int) :: tl) ∧ Fr (oneB b) w w' ∧ ∀ j x, j < n → ((bl s).drop i)[j]? = some x → p x = true)
      (fun m rec w1 hI hrec => ?_) (n := s.size) ⟨0, rfl, by omega, by simpa using B, Fr.refl _ _, fun j x h => by omega⟩
    obtain ⟨n, rfl, hn, B1, F1, hall⟩ := hI
    refine join1_ok (c := .bool) (fun (y : Bool) w' => Blk w' b t (.string s :: .int .i64 (((i + n : Nat)) : Int) :: tl) ∧ Fr (oneB b) w w' ∧ (y = true → ∃ x, ((bl s).drop i)[n]? = some x ∧ p x = true) ∧ (y = false → ∀ x, ((bl s).drop i)[n]? = some x → p x = false)) (fun kj hkj => ?_) ?_
    · refine drew_ok fun w2 F2 z2 => ?_
      have B2 := B1.fr F2 (fun h => h)
      have F2' := F1.then F2 fun _ _ h => h.elim
      refine nn_ok (B2.ld (o := 1) rfl (nn_ok (B2.ld (o := 0) rfl (ite_ok (fun h => ?_) fun h => hkj _ _ ⟨B2, F2', (fun e => by cases e), fun _ x hx => ?_⟩))))
      · have h : ((i + n : Nat) : Int) < (s.size : Int) := of_decide_eq_true h
        refine nn_ok (B2.ld (o := 0) rfl (nn_ok (B2.ld (o := 1) rfl (chr_ok (i := i + n) (by omega) ?_))))
        have hx : ((bl s).drop i)[n]? = some ((bl s)[i + n]'(by omega)) := by rw [List.getElem?_drop, List.getElem?_eq_getElem (by omega)]
        generalize (bl s)[i + n]'(by omega) = x at *
        refine callP_ok hp x fun w3 F3 => ?_
        have B3 := B2.fr F3 (fun h => h)
        exact keep_cons (B3.held1 (o := 0) rfl) (keep_cons (B3.held1 (o := 1) rfl) (keep_nil (hkj _ _ ⟨B3, F2'.then F3 fun _ _ h => h.elim, fun e => ⟨x, hx, e⟩, fun e y hy => by rw [hx] at hy; cases hy; exact e⟩)))
      · have h : ¬ ((i + n : Nat) : Int) < (s.size : Int) := of_decide_eq_false h
        rw [List.getElem?_drop] at hx
        have := (List.getElem?_eq_some_iff.1 hx).1
        omega
    rintro y w2 ⟨B2, F2, ht, hf⟩
    refine ite_ok (fun h => ?_) fun h => hkend _ ⟨?_, F2⟩
    · obtain ⟨x, hx, hp1⟩ := ht h
      have hlt := hx
      rw [List.getElem?_drop] at hlt
      have hlt := (List.getElem?_eq_some_iff.1 hlt).1
      refine join_in (nn_ok (B2.ld (o := 1) rfl (nn_ok (B2.st (o := 1) rfl (by simp) fun w3 B3 F3 => hrec (s.size - (n + 1)) w3 (by omega) ⟨n + 1, rfl, by omega, ?_, F2.sq F3, fun j z hj hz => ?_⟩))))
      · have e1 : IntKind.wrap .i64 (((i + n : Nat) : Int) + 1) = ((i + (n + 1) : Nat) : Int) := by rw [wrap_ok (by omega) (by omega)]; omega
        rw [← e1]
        exact B3
      · rcases Nat.lt_succ_iff_lt_or_eq.1 hj with hj | rfl
        · exact hall j z hj hz
        · rw [hx] at hz
          cases hz
          exact hp1
    · have e1 := takeWhile_at (k := n) hall (by rw [List.length_drop]; omega) (hf h)
      rw [e1, List.length_take, List.length_drop, Nat.min_eq_left (by omega)]
      exact B2
  · rintro w1 ⟨B1, F1⟩
    refine drew_ok fun w2 F2 z2 => ?_
    have B2 := B1.fr F2 (fun h => h)
    refine nn_ok (B2.ld (o := 0) rfl (nn_ok (B2.ld (o := 1) rfl ?_)))
    have hl := (((bl s).drop i).takeWhile_sublist p).length_le
    rw [List.length_drop] at hl
    refine sub_ok (s := s) (l := (i : Int)) (h' := ((i + (((bl s).drop i).takeWhile p).length : Nat) : Int)) (by omega) (by omega) (by omega) ⟨?_, B2, F1.then F2 fun _ _ h => h.elim⟩
    congr 2
    apply ba_ext
    rw [bl_extract, bl_bs, Int.toNat_natCast, Int.toNat_natCast, Nat.add_sub_cancel_left]
    exact (List.prefix_iff_eq_take.1 (List.takeWhile_prefix p)).symm

theorem fail_ok {v0 v1 v2 v3 v4 : Value} (B : Blk w b t [v0, v1, v2, v3, v4]) (e a : Int) :
    Calls Tryz.prog 46 #[.pointer (some ⟨b, 0, none⟩), .int .i64 e, .int .i64 a] w fun en w' => en = .returned (.bool false) ∧ Blk w' b t [v0, v1, v2, .int .i64 e, .int .i64 a] ∧ Fr (oneB b) w w' := by
  apply c46
  unfold t46
  refine nn_ok (B.st (o := 3) rfl (by simp) fun w1 B1 F1 => B1.st (o := 4) rfl (by simp) fun w2 B2 F2 => ⟨rfl, B2, F1.sq F2⟩)
theorem whole_ok {v1 v2 v3 v4 : Value} (B : Blk w b t [.string s, v1, v2, v3, v4]) (hg : Glob w) (hs : s.size ≤ 1000000) {j : Nat} (hij : i ≤ j) (hj : j ≤ s.size) :
    Calls Tryz.prog 35 #[.pointer (some ⟨b, 0, none⟩), .int .i64 (i : Int), .int .i64 (j : Int)] w fun en w' => match utfBad (((bl s).drop i).take (j - i)) with
      | none => en = .returned (.bool true) ∧ Fr noB w w'
      | some k => en = .returned (.bool false) ∧ Blk w' b t [.string s, v1, v2, .int .i64 30, .int .i64 ((i + k : Nat) : Int)] ∧ Fr (oneB b) w w' := by
  have hsl := bl_length s
  apply c35
  unfold t35
  refine nn_ok (B.ld (o := 0) rfl (sub_ok (s := s) (l := (i : Int)) (h' := (j : Int)) (by omega) (by omega) (by omega) ?_))
  have e8 : bl (s.extract ((i : Int)).toNat ((j : Int)).toNat) = ((bl s).drop i).take (j - i) := by
    rw [bl_extract, Int.toNat_natCast, Int.toNat_natCast]
  generalize hs8 : s.extract ((i : Int)).toNat ((j : Int)).toNat = s8 at *
  have hz : s8.size ≤ s.size := by rw [← bl_length, e8, List.length_take, List.length_drop]; omega
  refine callLF_ok (Decode_ok s8 (by omega) hg) fun sl w1 F1 => ?_
  have B1 := B.fr F1 (fun h => h)
  refine new_ok fun w2 m9 hm9 hs2 B9 F2 => ?_
  have B2 := B1.fr F2 (fun h => h)
  have hb := B1.lt
  refine B9.st (o := 0) rfl (by simp) fun w3 B9 F3 => ?_
  have B3 := B2.fr F3 (fun h => by unfold oneB at h; omega)
  refine B9.st (o := 1) rfl (by simp) fun w4 B9 F4 => ?_
  have B4 := B3.fr F4 (fun h => by unfold oneB at h; omega)
  have F14 : Fr noB w w4 := ((F1.tr F2).then F3 fun y hy h => by have := F1.size; unfold oneB at h; omega).then F4 fun y hy h => by have := F1.size; unfold oneB at h; omega
  refine B9.ld (o := 0) rfl ?_
  rw [← e8]
  unfold utfFault at *
  cases hu : utfBad (bl s8) with
  | none =>
    rw [hu] at B9
    exact ite_no rfl ⟨rfl, F14⟩
  | some k =>
    rw [hu] at B9
    have hk : k ≤ s8.size := by rw [← bl_length]; exact utfBad_le hu
    refine ite_yes rfl (B9.ld (o := 0) rfl (B9.ld (o := 1) rfl ?_))
    show callG _ _ #[_, _, .int .i64 (IntKind.wrap .i64 ((i : Int) + (k : Int)))] _ _ _ _
    rw [wrap_ok (n := (i : Int) + (k : Int)) (by omega) (by omega), show (i : Int) + (k : Int) = ((i + k : Nat) : Int) by omega]
    exact callB_ok (fail_ok B4 30 _) fun w5 ⟨B5, F5⟩ => ⟨rfl, B5, (F14.mono fun _ _ h => h.elim).sq F5⟩

theorem add_ok' {acc : List Tok} {e a : Int} {m1 m8 k x : Nat} {T : ByteArray} (h : St w b s i acc e a) (M1 : Blk w m1 44 [.pointer (some ⟨b, 0, none⟩)]) (M8 : Blk w m8 3 [.int .i64 (x : Int)]) (_ : m8 ≠ b) (hb1 : m1 ≠ b) (hacc : acc.length ≤ 1000000) :
    Calls Tryz.prog 47 #[.int .i64 (k : Int), .string T, .pointer (some ⟨m1, 0, none⟩), .pointer (some ⟨m8, 0, none⟩)] w fun en w' =>
      en = .returned (.bool true) ∧ St w' b s i (acc ++ [⟨k, bl T, x⟩]) e a ∧ Fr (bh b) w w' ∧ Blk w' m1 44 [.pointer (some ⟨b, 0, none⟩)] := by
  obtain ⟨l, B, hown⟩ := h
  have hb := B.lt
  apply c47
  unfold t47
  refine drew_ok fun w1 F1 z1 => ?_
  have B1 := B.fr F1 (fun h => h)
  have M11 := M1.fr F1 (fun h => h)
  have M81 := M8.fr F1 (fun h => h)
  refine M11.ld (o := 0) rfl (M11.ld (o := 0) rfl (nn_ok (B1.ldS (o := 2) rfl (M81.ld (o := 0) rfl (new_ok fun w2 m9 hm9 hs2 B9 F2 => ?_)))))
  have F12 := F1.tr F2
  have B2 := B.fr F12 (fun h => h)
  have M12 := M1.fr F12 (fun h => h)
  have M82 := M8.fr F12 (fun h => h)
  have hown2 := own_fr0 hown F12
  refine keep_cons (B2.held1 (o := 2) rfl) (keep_cons (M12.held1 (o := 0) rfl) (keep_cons (M12.held1 (o := 0) rfl) (keep_nil ?_)))
  obtain ⟨ti, z, hi, hz, h1, h2, h3⟩ := rTok
  refine appendC_ok uToks hi hz h1 h2 (by rw [h3]; rfl) (by omega) (s := l) hown2 (m := 1) (news := [.int .i64 (k : Int), .string T, .int .i64 (x : Int)]) rfl (B9.held fun j v hj => by rw [Nat.zero_add]; exact hj)
    (fun u hu => by simp only [List.mem_cons, List.not_mem_nil, or_false] at hu; rcases hu with rfl | rfl | rfl <;> rfl) (by unfold maxLen; omega) (by omega) (by have := F12.size; omega) fun l' w3 hown3 F3 => ?_
  have hne1 := own_ne hown2 M12 (by decide)
  have hne8 := own_ne hown2 M82 (by decide)
  have hneb := own_ne hown2 B2 (by decide)
  have B3 := B2.fr F3 (fun h => hneb _ h rfl)
  have M13 := M12.fr F3 (fun h => hne1 _ h rfl)
  have M83 := M82.fr F3 (fun h => hne8 _ h rfl)
  refine keep_cons (M83.held1 (o := 0) rfl) (keep_cons (M13.held1 (o := 0) rfl) (keep_cons (M13.held1 (o := 0) rfl) (keep_nil ?_)))
  refine nn_ok (B3.st (o := 2) rfl (by simp) fun w4 B4 F4 => ⟨rfl, ⟨l', B4, ?_⟩, ((F12.up b).then F3 fun y hy h => ?_).sq F4.one, M13.fr F4 (fun h => hb1 h)⟩)
  · rw [List.length_append, List.flatMap_append]
    have := own_one hown3 F4
    simpa [tokCells, bs_bl] using this
  · have := (hown2.lt y h).1
    unfold bh
    omega
end
end Go.Proofs.YthnfcbjfmghomaaGreatDoor
