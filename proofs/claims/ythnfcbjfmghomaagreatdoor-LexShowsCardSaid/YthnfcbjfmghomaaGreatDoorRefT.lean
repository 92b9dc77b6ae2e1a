/- The document's tokens: written, Show. No condition. -/
import Derived.Test.YthnfcbjfmghomaaGreatDoorRefS
import Derived.Test.YthnfcbjfmghomaaGreatDoorLexM
import Derived.Test.YthnfcbjfmghomaaGreatDoorPlainB
namespace Go.Lex
theorem join_snoc : ∀ {outs : List B} (w : B), outs ≠ [] → Lib.join (outs ++ [w]) [32] = Lib.join outs [32] ++ 32 :: w
  | [x], w, _ => by
    rw [List.cons_append, Lib.join_cons, Lib.join_cons]
    simp [Lib.joinTail]
  | x :: y :: r, w, _ => by
    rw [List.cons_append, Lib.join_cons, Lib.join_cons]
    simp [Lib.joinTail]
theorem join_ne {outs : List B} (h : ∀ o ∈ outs, o ≠ []) : Lib.join outs [32] = [] ↔ outs = [] := by
  cases outs with
  | nil => simp [Lib.join_nil]
  | cons x r =>
    rw [Lib.join_cons]
    have := h x List.mem_cons_self
    simp [this]
/-- when is a token shown? -/
theorem show1_ref {k : Int} {t : B} : show1 k t = some (written k t) ↔ (written k t).length ≤ 4096 ∧ ∃ kn : Nat, (kn : Int) = k ∧ first (written k t) = .ok (kn, t, (written k t).length) := by
  rw [show1_iff]
  exact ⟨fun h => h.2, fun h => ⟨rfl, h⟩⟩
theorem show1_none {k : Int} {t : B} (h : ¬ ((written k t).length ≤ 4096 ∧ ∃ kn : Nat, (kn : Int) = k ∧ first (written k t) = .ok (kn, t, (written k t).length))) : show1 k t = none := by
  cases hs : show1 k t with
  | none => rfl
  | some w =>
    obtain ⟨rfl, h2⟩ := show1_iff.1 hs
    exact absurd h2 h
theorem pass_first {s : B} {k n : Nat} {t : B} (h : first s = .ok (k, t, n)) : passedS s = .ok 0 := by
  obtain ⟨c, r, rfl, h1, h2⟩ := first_head h
  have hz : (c :: r).takeWhile blank = [] := by rw [List.takeWhile_cons, h1]; rfl
  rw [passedS_no, hz]
  · rfl
  · intro x hx
    rw [hz] at hx
    simp only [List.length_nil, List.drop_zero, List.cons.injEq] at hx
    exact h2 ⟨hx.1, by rw [hx.2]; rfl⟩
end Go.Lex
namespace Go.Proofs.YthnfcbjfmghomaaGreatDoor
open Go.Lift Go.Lex
section
variable {w : World}
theorem rwritten_ok (k : Int) (t : ByteArray) (a : Int) (ht : t.size ≤ 1000000) : Calls Tryz.prog 41 #[.agg #[.int .i64 k, .string t, .int .i64 a]] w fun e w' => e = .returned (.string (bs (Lex.written k (bl t)))) ∧ Fr noB w w' := by
  have htl := bl_length t
  apply c41
  unfold t41
  refine new_ok fun w1 m3 hm3 hs1 B1 F1 => ?_
  have lt : ∀ {K : ByteArray → G} {R : Ending → World → Prop}, K t R w1 → ldG .str ⟨m3, 1, none⟩ K R w1 := fun h => B1.ld (c := .str) (o := 1) rfl h
  refine B1.ld (c := .int .i64) (x := k) (o := 0) rfl (ite_ok (fun h4 => lt ⟨?_, F1⟩) fun h4 => ?_)
  · have h4 : k ≠ 4 := by simpa using h4
    unfold Lex.written
    rw [if_neg h4, bs_bl]
  have h4 : k = 4 := by simpa using h4
  have hw : Lex.written k (bl t) = (34 :: (bl t).flatMap quoteB) ++ [34] := by
    unfold Lex.written quote
    rw [if_pos h4]
    simp
  rw [hw]
  have hlen : ∀ i : Nat, (((bl t).take i).flatMap quoteB).length ≤ 2000000 := fun i => by
    rw [quote_len]
    have h2 : ((bl t).take i).countP isKey ≤ ((bl t).take i).length := List.countP_le_length
    have h3 : ((bl t).take i).length ≤ t.size := by rw [List.length_take]; omega
    omega
  refine join1_ok (c := .str) (fun (s : ByteArray) w' => s = bs (34 :: (bl t).flatMap quoteB) ∧ w' = w1) (fun k6 hk6 => ?_) ?_
  · refine loop_ok (vs := [.one .str, .one (.int .i64)]) (fun xs w' => ∃ i : Nat, i ≤ t.size ∧ (show Int from xs.2.1.1) = (i : Int) ∧ (show ByteArray from xs.1.1) = bs (34 :: ((bl t).take i).flatMap quoteB) ∧ w' = w1)
      (fun xs => t.size - (show Int from xs.2.1.1).toNat) ?_ (xs := ((ByteArray.mk #[34], ()), (((0 : Int), ()), ()))) ⟨0, Nat.zero_le _, rfl, rfl, rfl⟩
    rintro rec ⟨⟨s8, ⟨⟩⟩, ⟨⟨i', ⟨⟩⟩, ⟨⟩⟩⟩ w2 ⟨i, hi, hi', hs8, hw2⟩ hrec
    change ByteArray at s8
    change Int at i'
    change i' = _ at hi'
    change s8 = _ at hs8
    subst hi' hs8
    replace hw2 := hw2.symm
    subst hw2
    refine lt (ite_ok (fun hlt => ?_) fun hge => hk6 _ _ ⟨?_, rfl⟩)
    rotate_left
    · have hge : ¬ (i : Int) < t.size := of_decide_eq_false hge
      rw [List.take_of_length_le (by omega)]
    have hlt : (i : Int) < t.size := of_decide_eq_true hlt
    obtain ⟨c, hc⟩ : ∃ c, (bl t)[i]? = some c := ⟨_, List.getElem?_eq_getElem (by omega)⟩
    have hli := hlen i
    have etk : (34 :: ((bl t).take (i + 1)).flatMap quoteB) = (34 :: ((bl t).take i).flatMap quoteB) ++ quoteB c := by
      rw [List.take_add_one, hc, List.flatMap_append]
      simp
    have ewi : IntKind.wrap .i64 ((i : Int) + 1) = ((i + 1 : Nat) : Int) := by rw [wrap_ok (by omega) (by omega)]; omega
    have next : ∀ {s : ByteArray}, s = bs ((34 :: ((bl t).take i).flatMap quoteB) ++ quoteB c) → uncV rec ((s, ()), ((IntKind.wrap .i64 ((i : Int) + 1), ()), ())) _ w1 := fun {s} h => by
      rw [ewi]
      exact hrec _ _ ⟨i + 1, by omega, rfl, by rw [etk]; exact h, rfl⟩ (by show t.size - ((i + 1 : Nat) : Int).toNat < t.size - ((i : Nat) : Int).toNat; simp only [Int.toNat_natCast]; omega)
    have one : ∀ {K : ByteArray → G} {R : Ending → World → Prop}, K (bs [c]) R w1 → ldG .str ⟨m3, 1, none⟩ (fun (s23 : ByteArray) => subG s23 (i : Int) (IntKind.wrap .i64 ((i : Int) + 1)) K) R w1 := fun {K} {R} h => lt (by
      show subG t (i : Int) (IntKind.wrap .i64 ((i : Int) + 1)) K R w1
      rw [ewi]
      refine subB_ok (i := i) (j := i + 1) (by omega) (by omega) ?_
      have : ((bl t).drop i).take (i + 1 - i) = [c] := by
        obtain ⟨hh, e⟩ := List.getElem?_eq_some_iff.1 hc
        rw [Nat.add_sub_cancel_left, List.drop_eq_getElem_cons hh, e]
        rfl
      rw [this]
      exact h)
    have cat : ∀ {x : ByteArray} {l : B} {K : ByteArray → G} {R : Ending → World → Prop}, x = bs l → l.length ≤ 2 → K (bs ((34 :: ((bl t).take i).flatMap quoteB) ++ l)) R w1 → catG (bs (34 :: ((bl t).take i).flatMap quoteB)) x K R w1 := fun {x} {l} {K} {R} hx h2 h => by
      subst hx
      refine cat_ok (by rw [bs_size, bs_size, List.length_cons]; omega) ?_
      rw [bs_append]
      exact h
    refine join_in (vs := [.one .str]) (lt (chrC_ok hc (join_in (vs := [.one .str]) (join_in (vs := [.one .str]) ?_))))
    rw [u8_lit c 10 (z := 10) rfl]
    by_cases h10 : c = 10
    · refine ite_yes (by simpa using h10) (cat (l := [92, 110]) rfl (by simp) (next ?_))
      rw [h10]; rfl
    refine ite_no (by simpa using h10) (join_in (vs := [.one .str]) ?_)
    rw [u8_lit c 9 (z := 9) rfl]
    by_cases h9 : c = 9
    · refine ite_yes (by simpa using h9) (cat (l := [92, 116]) rfl (by simp) (next ?_))
      rw [h9]; rfl
    refine ite_no (by simpa using h9) ?_
    rw [u8_lit c 34 (z := 34) rfl, u8_lit c 92 (z := 92) rfl]
    refine join1_ok (c := .bool) (fun (b : Bool) w' => b = (c == 34 || c == 92) ∧ w' = w1) (fun kj hkj => ite_ok (fun h => hkj _ _ ⟨by rw [h]; rfl, rfl⟩) fun h => hkj _ _ ⟨by rw [h]; rfl, rfl⟩) ?_
    rintro b w3 ⟨rfl, hw3⟩
    replace hw3 := hw3.symm
    subst hw3
    refine join_in (vs := [.one .str]) ?_
    by_cases hk : (c == 34 || c == 92) = true
    · refine ite_yes hk (cat (l := [92]) rfl (by simp) (one (cat_ok (by rw [bs_size, bs_size, List.length_append, List.length_cons, List.length_singleton, List.length_singleton]; omega) ?_)))
      rw [bs_append]
      refine next ?_
      have : quoteB c = [92, c] := by
        unfold quoteB
        rw [if_neg h10, if_neg h9]
        by_cases h34 : c = 34
        · rw [h34]; rfl
        · have : c = 92 := by simpa [h34] using hk
          rw [this]; rfl
      rw [this]
      simp
    · refine ite_no (by simpa using hk) (one (cat (l := [c]) rfl (by simp) (next ?_)))
      have h34 : ¬ c = 34 := fun e => hk (by rw [e]; rfl)
      have h92 : ¬ c = 92 := fun e => hk (by rw [e]; rfl)
      have : quoteB c = [c] := by
        unfold quoteB
        rw [if_neg h10, if_neg h9, if_neg h34, if_neg h92]
      rw [this]
  rintro s w2 ⟨rfl, hw2⟩
  replace hw2 := hw2.symm
  subst hw2
  have hl2 := hlen (bl t).length
  rw [List.take_length] at hl2
  refine cat_ok (by rw [bs_size, List.length_cons]; show _ + 1 + 1 ≤ _; omega) ⟨?_, F1⟩
  rw [show ByteArray.mk #[34] = bs [34] from rfl, bs_append]
/-- what Show answers -/
def ShowP (w : World) (SF : Option (List B)) : Ending → World → Prop := fun e w' => (match SF with
      | some outs => e = .returned (.tuple #[.string (bs (Lib.join outs [32])), .int .i64 0])
      | none => e = .returned (.tuple #[.string ⟨#[]⟩, .int .i64 60])) ∧ Fr noB w w'
theorem callPN2_ok {P : Program} {f : FuncId} {args : Array Value} {r : Except Fault Nat} {R : Ending → World → Prop} (hc : Calls P f args w fun e w' => (match r with
    | .ok n => e = .returned (.tuple #[.int .i64 (n : Int), .agg #[.int .i64 0, .int .i64 0]])
    | .error f => e = .returned (.tuple #[.int .i64 0, .agg #[.int .i64 (f.err : Int), .int .i64 (f.at' : Int)]])) ∧ Fr noB w w') {k : Int → Int → Int → G}
    (h : ∀ (n e a : Int) (w' : World), (0 < n ↔ ∃ m : Nat, r = .ok m ∧ 0 < m) → Fr noB w w' → k n e a R w') : callG P f args [.one (.int .i64), .agg [.int .i64, .int .i64]] k R w :=
  callPN_ok hc (fun n w' hr F => h _ _ _ w' ⟨fun h => ⟨n, hr, by omega⟩, fun ⟨m, h1, h2⟩ => by rw [hr] at h1; cases h1; omega⟩ F) fun f w' hr F => h _ _ _ w' ⟨fun h => by omega, fun ⟨m, h1, _⟩ => by rw [hr] at h1; cases h1⟩ F
theorem callT2_ok {P : Program} {f : FuncId} {args : Array Value} {r : Except Fault (Nat × B × Nat)} {R : Ending → World → Prop} (hc : Calls P f args w (RefP w r)) (hr0 : ∀ f, r = .error f → f.err ≠ 0) {k : Int → ByteArray → Int → Int → Int → Int → G}
    (h : ∀ (kd n e a : Int) (t : ByteArray) (w' : World), ((e = 0 ∧ ∃ (kn n' : Nat) (t' : B), r = .ok (kn, t', n') ∧ kd = kn ∧ n = n' ∧ t = bs t') ∨ (e ≠ 0 ∧ ∃ f, r = .error f)) → Fr noB w w' → k kd t 0 n e a R w') :
    callG P f args [.agg [.int .i64, .str, .int .i64], .one (.int .i64), .agg [.int .i64, .int .i64]] k R w :=
  callT_ok hc (fun kd n t w' hr F => h _ _ _ _ _ w' (.inl ⟨rfl, kd, n, t, hr, rfl, rfl, rfl⟩) F) fun f w' hr F => h _ _ _ _ _ w' (.inr ⟨by have := hr0 f hr; omega, f, hr⟩) F
set_option maxHeartbeats 800000 in
theorem rShow6_ok {l0 : Sl} {toks : List (Int × ByteArray × Int)} (hR : RdT w l0 toks) (h20 : ∀ x ∈ toks, x.2.1.size ≤ 20000) (h4 : toks.length ≤ 4000) :
    Calls Tryz.prog 23 #[.slice l0.a l0.n l0.c] w (ShowP w (showF [] (toks.map fun x => (x.1, bl x.2.1)))) := by
  have hn := hR.1
  apply c23
  unfold t23
  generalize hSF : showF [] (toks.map fun x => (x.1, bl x.2.1)) = SF
  have bad : ∀ {w' : World}, SF = none → Fr noB w w' → retG (.tuple #[.string (ByteArray.mk #[]), .int .i64 60]) (ShowP w SF) w' := fun h F => by
    subst h
    exact ⟨rfl, F⟩
  refine join1_ok (c := .str) (fun (s : ByteArray) w' => ∃ outs, SF = some outs ∧ s = bs (Lib.join outs [32]) ∧ Fr noB w w') (fun k1 hk1 => ?_) (fun s w' ⟨outs, h1, h2, F⟩ => by
    subst h1 h2
    exact ⟨rfl, F⟩)
  refine loop_ok (vs := [.one .str, .one (.int .i64)]) (fun xs w' => ∃ (k : Nat) (outs : List B), k ≤ toks.length ∧ (show Int from xs.2.1.1) = (k : Int) ∧ (show ByteArray from xs.1.1) = bs (Lib.join outs [32]) ∧ outs.length ≤ k ∧ (∀ o ∈ outs, o ≠ [] ∧ o.length ≤ 4096) ∧ SF = showF outs ((toks.drop k).map fun x => (x.1, bl x.2.1)) ∧ Fr noB w w')
    (fun xs => toks.length - (show Int from xs.2.1.1).toNat) ?_ (xs := ((ByteArray.mk #[], ()), (((0 : Int), ()), ()))) ⟨0, [], Nat.zero_le _, rfl, rfl, Nat.le_refl _, by simp, by rw [← hSF]; rfl, Fr.refl _ _⟩
  rintro rec ⟨⟨s3, ⟨⟩⟩, ⟨⟨k', ⟨⟩⟩, ⟨⟩⟩⟩ w1 ⟨k, outs, hkl, hk', hs3, hol, ho, hq, F1⟩ hrec
  change ByteArray at s3
  change Int at k'
  change k' = _ at hk'
  change s3 = _ at hs3
  subst hk' hs3
  refine ite_ok (fun hlt => ?_) fun hge => hk1 _ _ ⟨outs, ?_, rfl, F1⟩
  rotate_left
  · have hge : ¬ (k : Int) < (l0.n : Int) := of_decide_eq_false hge
    rw [hq, List.drop_of_length_le (by omega)]
    rfl
  have hlt : (k : Int) < (l0.n : Int) := of_decide_eq_true hlt
  obtain ⟨⟨kd, tx, at'⟩, hx⟩ : ∃ x, toks[k]? = some x := ⟨_, List.getElem?_eq_getElem (by omega)⟩
  have hdrop : toks.drop k = (kd, tx, at') :: toks.drop (k + 1) := by
    obtain ⟨hh, e⟩ := List.getElem?_eq_some_iff.1 hx
    rw [List.drop_eq_getElem_cons hh, e]
  rw [hdrop, List.map_cons] at hq
  have htx : tx.size ≤ 20000 := h20 _ (List.mem_of_getElem? hx)
  have ewk : IntKind.wrap .i64 ((k : Int) + 1) = ((k + 1 : Nat) : Int) := by rw [wrap_ok (by omega) (by omega)]; omega
  have next : ∀ {s : ByteArray} {w' : World} {outs' : List B}, s = bs (Lib.join outs' [32]) → outs'.length ≤ k + 1 → (∀ o ∈ outs', o ≠ [] ∧ o.length ≤ 4096) → SF = showF outs' ((toks.drop (k + 1)).map fun x => (x.1, bl x.2.1)) → Fr noB w w' →
      uncV rec ((s, ()), ((IntKind.wrap .i64 ((k : Int) + 1), ()), ())) _ w' := fun {s} {w'} {outs'} h1 h2 h3 h4' h5 => by
    rw [ewk]
    exact hrec _ _ ⟨k + 1, outs', by omega, rfl, h1, h2, h3, h4', h5⟩ (by show toks.length - ((k + 1 : Nat) : Int).toNat < toks.length - ((k : Nat) : Int).toNat; simp only [Int.toNat_natCast]; omega)
  have cellsAt : ∀ {w' : World}, Fr noB w w' → ∃ g o, l0.a = some ⟨g, o, none⟩ ∧ w'.cell? ⟨g, o + k * 3, none⟩ = some (.int .i64 kd) ∧ w'.cell? ⟨g, o + k * 3 + 1, none⟩ = some (.string tx) ∧ w'.cell? ⟨g, o + k * 3 + 2, none⟩ = some (.int .i64 at') := fun F => (hR.fr F).2 k _ hx
  have ld0 : ∀ {w' : World} {K : Int → G} {R : Ending → World → Prop}, Fr noB w w' → K kd R w' → idxG l0.a l0.n (k : Int) 3 (fun (a7 : Addr) => ldG (.int .i64) (a7.add 0) K) R w' := fun {w'} {K} {R} F h => by
    obtain ⟨g, o, ha, c0, _, _⟩ := cellsAt F
    rw [ha]
    refine idxB_ok (n := l0.n) (i := k) (by omega) ?_
    show ldG _ (Addr.add ⟨g, o + k * 3, none⟩ 0) _ _ _
    rw [Addr.add_zero']
    exact ld_ok (c := .int .i64) c0 h
  have ld1 : ∀ {w' : World} {K : ByteArray → G} {R : Ending → World → Prop}, Fr noB w w' → K tx R w' → idxG l0.a l0.n (k : Int) 3 (fun (a7 : Addr) => ldG .str (a7.add 1) K) R w' := fun {w'} {K} {R} F h => by
    obtain ⟨g, o, ha, _, c1, _⟩ := cellsAt F
    rw [ha]
    refine idxB_ok (n := l0.n) (i := k) (by omega) ?_
    show ldG _ (Addr.add ⟨g, o + k * 3, none⟩ 1) _ _ _
    rw [Addr.add_lit]
    exact ld_ok (c := .str) c1 h
  refine join_in (vs := [.one .str]) ?_
  refine join1_ok (c := .bool) (fun (b : Bool) w' => (b = true ↔ (kd = 0 ∧ bl tx = [])) ∧ w' = w1) (fun kj hkj => ?_) ?_
  · refine ld0 F1 (ite_ok (fun h => ld1 F1 (hkj _ _ ⟨?_, rfl⟩)) fun h => hkj _ _ ⟨⟨fun h => (by cases h), fun hh => ?_⟩, rfl⟩)
    · have h : kd = 0 := by simpa using h
      rw [eq_bl, bl_empty, beq_iff_eq]
      exact ⟨fun h2 => ⟨h, h2⟩, fun h2 => h2.2⟩
    · have h : ¬ kd = 0 := by simpa using h
      exact absurd hh.1 h
  rintro b11 w2 ⟨hb11, hw2⟩
  replace hw2 := hw2.symm
  subst hw2
  by_cases hskip : kd = 0 ∧ bl tx = []
  · refine ite_yes (hb11.2 hskip) (next rfl (by omega) ho ?_ F1)
    rw [hq]
    conv => lhs; unfold showF
    rw [if_pos hskip]
  refine ite_no (by rw [Bool.eq_false_iff]; exact fun h => hskip (hb11.1 h)) ?_
  have hq2 : SF = match show1 kd (bl tx) with
      | some s => showF (outs ++ [s]) ((toks.drop (k + 1)).map fun x => (x.1, bl x.2.1))
      | none => none := by
    rw [hq]
    conv => lhs; unfold showF
    rw [if_neg hskip]
    cases show1 kd (bl tx) <;> rfl
  have hbad : ¬ ((Lex.written kd (bl tx)).length ≤ 4096 ∧ ∃ kn : Nat, (kn : Int) = kd ∧ first (Lex.written kd (bl tx)) = .ok (kn, bl tx, (Lex.written kd (bl tx)).length)) → SF = none := fun h => by rw [hq2, show1_none h]
  obtain ⟨g, o, ha, c0, c1, c2⟩ := cellsAt F1
  rw [ha]
  refine idxB_ok (n := l0.n) (i := k) (by omega) ?_
  show ldG _ (Addr.add ⟨g, o + k * 3, none⟩ 0) _ _ _
  simp only [Addr.add_lit, Nat.add_zero]
  refine ld_ok (c := .int .i64) c0 (ld_ok (c := .str) c1 (ld_ok (c := .int .i64) c2 ?_))
  refine callS_ok (rwritten_ok kd tx at' (by omega)) fun w3 F3 => ?_
  have F13 := F1.tr F3
  generalize hS : Lex.written kd (bl tx) = S at *
  have hSs := bs_size S
  refine join1_ok (c := .bool) (fun (b : Bool) w' => b = (S == [] || decide (4096 < S.length)) ∧ w' = w3) (fun kj hkj => ?_) ?_
  · rw [eq_bl, bl_bs, bl_empty]
    refine ite_ok (fun h => hkj _ _ ⟨by rw [h]; rfl, rfl⟩) fun h => hkj _ _ ⟨?_, rfl⟩
    rw [h, Bool.false_or]
    exact decide_eq_decide.2 (by omega)
  rintro b18 w4 ⟨rfl, hw4⟩
  replace hw4 := hw4.symm
  subst hw4
  by_cases hz : (S == [] || decide (4096 < S.length)) = true
  · refine ite_yes hz (bad (hbad ?_) F13)
    rintro ⟨hle, kn, _, hf⟩
    rw [Bool.or_eq_true, beq_iff_eq, decide_eq_true_eq] at hz
    rcases hz with hz | hz
    · rw [hz] at hf
      cases hf
    · omega
  refine ite_no (by simpa using hz) ?_
  rw [Bool.or_eq_true, beq_iff_eq, decide_eq_true_eq] at hz
  have hSne : S ≠ [] := fun h => hz (.inl h)
  have hSle : S.length ≤ 4096 := by
    have : ¬ 4096 < S.length := fun h => hz (.inr h)
    omega
  refine callPN2_ok (passed_ok _ (by rw [bs_size]; omega)) fun n e0 a0 w5 hn0 F5 => ?_
  rw [bl_bs] at hn0
  refine new_ok fun w6 m22 hm22 hs6 B6 F6 => B6.st (o := 0) rfl (by simp) fun w7 B7 F7 => B7.st (o := 1) rfl (by simp) fun w8 B8 F8 => ?_
  have F38 : Fr noB w3 w8 := F5.tr (F6.then (F7.sq F8) fun y hy h => by unfold oneB at h; omega)
  refine callT2_ok (first_ok _ (by rw [bl_bs]; exact hSne) (by rw [bs_size]; omega)) (fun f hf => first_err hf) fun kf nf ef af tf w9 hf F9 => ?_
  rw [bl_bs] at hf
  refine new_ok fun w10 m29 hm29 hs10 B10 F10 => new_ok fun w11 m30 hm30 hs11 B11 F11 => ?_
  refine (B10.fr F11 (fun h => h)).st (o := 0) rfl (by simp) fun w12 B12 F12 => B12.st (o := 1) rfl (by simp) fun w13 B13 F13' => B13.st (o := 2) rfl (by simp) fun w14 B14 F14 => ?_
  have Fa := (F12.sq F13').sq F14
  refine (B11.fr Fa (fun h => by unfold oneB at h; omega)).st (o := 0) rfl (by simp) fun w15 B15 F15 => B15.st (o := 1) rfl (by simp) fun w16 B30 F16 => ?_
  have Fb := F15.sq F16
  have B29 := B14.fr Fb (fun h => by unfold oneB at h; omega)
  have F116 : Fr noB w w16 := (((F13.tr F38).tr F9).tr (F10.tr F11)).then (S := noB) (T := fun b => b = m29 ∨ b = m30) ((Fa.mono fun _ _ h => Or.inl h).then Fb fun _ _ h => Or.inr h) fun y hy h => by
    have := ((F13.tr F38).tr F9).size
    omega
  change Blk w16 m29 _ [.int .i64 kf, .string tf, .int .i64 0] at B29
  change Blk w16 m30 _ [.int .i64 ef, .int .i64 af] at B30
  refine join1_ok (c := .bool) (fun (b : Bool) w' => (b = false ↔ ∃ kn : Nat, (kn : Int) = kd ∧ first S = .ok (kn, bl tx, S.length)) ∧ Fr noB w w') (fun kj hkj => ?_) ?_
  · refine drew_ok fun w17 F17 z17 => ?_
    have F117 := F116.tr F17
    have B29' := B29.fr F17 (fun h => h)
    have B30' := B30.fr F17 (fun h => h)
    obtain ⟨g', o', ha', d0, d1, _⟩ := cellsAt F117
    rw [ha] at ha'
    cases ha'
    have no : ∀ {b : Bool}, b = true → (∀ kn : Nat, (kn : Int) = kd → first S ≠ .ok (kn, bl tx, S.length)) → kj b _ w17 := fun {b} hb h => hkj _ _ ⟨⟨fun h2 => (by rw [hb] at h2; cases h2), fun ⟨kn, h1, h2⟩ => absurd h2 (h kn h1)⟩, F117⟩
    refine ite_ok (fun h => no rfl fun kn h1 h2 => ?_) fun hn1 => ?_
    · have h : n > 0 := of_decide_eq_true h
      obtain ⟨m, h3, h5⟩ := hn0.1 h
      rw [pass_first h2] at h3
      cases h3
      omega
    refine B30'.ld (c := .int .i64) (x := ef) (o := 0) rfl ?_
    rcases hf with ⟨rfl, kn, n', t', hf, rfl, rfl, rfl⟩ | ⟨hef, f, hf⟩
    rotate_left
    · exact ite_yes (by rw [bne_iff_ne]; exact hef) (no rfl fun kn h1 h2 => by rw [hf] at h2; cases h2)
    refine ite_no rfl (ite_ok (fun h => no rfl fun kn' h1 h2 => ?_) fun h2 => ?_)
    · have h : ¬ (n' : Int) = ((bs S).size : Int) := by simpa using h
      rw [hf] at h2
      cases h2
      omega
    have h2 : (n' : Int) = ((bs S).size : Int) := by simpa using h2
    refine B29'.ld (c := .int .i64) (x := (kn : Int)) (o := 0) rfl (idxB_ok (n := l0.n) (i := k) (by omega) ?_)
    show ldG _ (Addr.add ⟨g, o + k * 3, none⟩ 0) _ _ _
    rw [Addr.add_zero']
    refine ld_ok (c := .int .i64) d0 (ite_ok (fun h => no rfl fun kn' h1 h3 => ?_) fun h3 => ?_)
    · have h : ¬ (kn : Int) = kd := by simpa using h
      rw [hf] at h3
      cases h3
      exact h h1
    have h3 : (kn : Int) = kd := by simpa using h3
    refine B29'.ld (c := .str) (x := bs t') (o := 1) rfl (idxB_ok (n := l0.n) (i := k) (by omega) ?_)
    show ldG _ (Addr.add ⟨g, o + k * 3, none⟩ 1) _ _ _
    rw [Addr.add_lit]
    refine ld_ok (c := .str) d1 (hkj _ _ ⟨?_, F117⟩)
    rw [eq_bl, bl_bs]
    have hnl : n' = S.length := by omega
    rw [hf, hnl]
    simp only [Bool.not_eq_false', beq_iff_eq]
    exact ⟨fun h => ⟨kn, h3, by rw [h]⟩, fun ⟨kn', _, h5⟩ => by cases h5; rfl⟩
  rintro b39 w17 ⟨hb39, F17⟩
  by_cases hall : ∃ kn : Nat, (kn : Int) = kd ∧ first S = .ok (kn, bl tx, S.length)
  · refine ite_no (hb39.2 hall) ?_
    have hsh : show1 kd (bl tx) = some S := show1_iff.2 ⟨hS.symm, hSle, hall⟩
    have hq3 : SF = showF (outs ++ [S]) ((toks.drop (k + 1)).map fun x => (x.1, bl x.2.1)) := by rw [hq2, hsh]
    have hone : ∀ o' ∈ outs, o' ≠ [] := fun o' h => (ho o' h).1
    have hjl := join_le (xs := outs) (by omega) fun o' h => Nat.le_trans (ho o' h).2 (by omega)
    refine join1_ok (c := .str) (fun (s : ByteArray) w' => s = bs (if outs = [] then [] else Lib.join outs [32] ++ [32]) ∧ w' = w17) (fun kj hkj => ?_) ?_
    · rw [eq_bl, bl_bs, bl_empty]
      by_cases hoe : outs = []
      · subst hoe
        exact ite_no rfl (hkj _ _ ⟨rfl, rfl⟩)
      · refine ite_yes ?_ (cat_ok (by rw [bs_size]; show _ + 1 ≤ _; omega) (hkj _ _ ⟨?_, rfl⟩))
        · have : ¬ Lib.join outs [32] = [] := fun h => hoe ((join_ne hone).1 h)
          simpa using this
        · rw [if_neg hoe, show ByteArray.mk #[32] = bs [32] from rfl, bs_append]
    rintro s42 w18 ⟨rfl, hw18⟩
    replace hw18 := hw18.symm
    subst hw18
    refine cat_ok (by
      rw [bs_size, bs_size]
      split
      · simp; omega
      · rw [List.length_append, List.length_singleton]; omega) ?_
    rw [bs_append]
    refine next (outs' := outs ++ [S]) ?_ (by rw [List.length_append, List.length_singleton]; omega) (fun o' ho' => ?_) hq3 F17
    · by_cases hoe : outs = []
      · subst hoe
        rw [if_pos rfl, List.nil_append, List.nil_append, Lib.join_one]
      · rw [if_neg hoe, join_snoc S hoe]
        simp
    · rcases List.mem_append.1 ho' with h | h
      · exact ho o' h
      · rw [List.mem_singleton.1 h]
        exact ⟨hSne, hSle⟩
  · refine ite_yes ?_ (bad (hbad fun h => hall h.2) F17)
    cases b39 with
    | true => rfl
    | false => exact absurd (hb39.1 rfl) hall
end
end Go.Proofs.YthnfcbjfmghomaaGreatDoor
