/- The finder law behind FRanksCard: one part of its proof (joined by program out of my own texts). No condition. -/
import Derived.Test.YticokfpaoiekgaaGreatDoorFRkAZ
section
namespace Go.Prs
open Go.Lex
theorem peek_txt {l : List Tok} {p : Nat} (h : ∀ t ∈ l, t.text.length < 4611686018427387904) : (peek l p).text.length < 4611686018427387904 := by
  unfold peek
  cases h1 : l[p]? with
  | some t => exact h t (List.mem_of_getElem? h1)
  | none => cases h2 : l.getLast? <;> exact Nat.zero_lt_of_lt (show 0 < 4611686018427387904 by omega)
theorem take_txt {l : List Tok} {k : Nat} {s : PS} (h : ∀ t ∈ l, t.text.length < 4611686018427387904) : (take l k s).1.text.length < 4611686018427387904 := by
  unfold take
  split
  · exact Nat.zero_lt_of_lt (show 0 < 4611686018427387904 by omega)
  · exact peek_txt h
end Go.Prs
namespace Go.Proofs.YticokfpaoiekgaaGreatDoor
open Go.Lift Go.Lex Go.Shp Go.Prs
theorem shV_flat {w : World} {k : Int} {o n : ByteArray} (ho : o.size < 4611686018427387904) (hn : n.size < 4611686018427387904) : ShV w k o n ⟨none, 0, 0⟩ ⟨none, 0, 0⟩ (.mk k (bl o) (bl n) [] []) := by
  unfold ShV
  refine ⟨rfl, rfl, rfl, ⟨⟨rfl, fun k x h => by simp at h⟩, by simp, rfl, by simp, ho, hn, fun x h => by simp at h⟩, ?_⟩
  unfold ShL
  trivial
def ParP (w : World) (p : Nat) (sl : Sl) (l : List Tok) (s : Shape) (s' : PS) (e : Ending) (w' : World) : Prop := ∃ (k : Int) (o n : ByteArray) (ns ps : Sl), e = .returned (shArg k o n ns ps) ∧ Cur w' p sl l s' ∧ Fr (oneB p) w w' ∧ ∀ w'', Fr (fun b => b < w.heap.size) w' w'' → ShV w'' k o n ns ps s
theorem callPar_ok {R : Ending → World → Prop} {w : World} {p : Nat} {sl : Sl} {l : List Tok} {s : Shape} {s' : PS} {f : FuncId} {args : Array Value} (hc : Calls Tryz.prog f args w (ParP w p sl l s s')) {K : Int → ByteArray → ByteArray → Sl → Sl → G}
    (h : ∀ k o n ns ps w', Cur w' p sl l s' → Fr (oneB p) w w' → (∀ w'', Fr (fun b => b < w.heap.size) w' w'' → ShV w'' k o n ns ps s) → K k o n ns ps R w') : callG Tryz.prog f args [.agg [.int .i64, .str, .str, .slice, .slice]] K R w :=
  call_ok hc fun _ w' ⟨k, o, n, ns, ps, he, hc', F, hv⟩ => ⟨((k, o, n, ns, ps, ()), ()), he, h k o n ns ps w' hc' F hv⟩
def UpP (w : World) (s : Shape) (e : Ending) (w' : World) : Prop := ∃ (k : Int) (o n : ByteArray), e = .returned (shArg k o n ⟨none, 0, 0⟩ ⟨none, 0, 0⟩) ∧ Fr noB w w' ∧ ∀ w'', ShV w'' k o n ⟨none, 0, 0⟩ ⟨none, 0, 0⟩ s
theorem callUp_ok {R : Ending → World → Prop} {w : World} {s : Shape} {f : FuncId} {args : Array Value} (hc : Calls Tryz.prog f args w (UpP w s)) {K : Int → ByteArray → ByteArray → Sl → Sl → G}
    (h : ∀ k o n w', Fr noB w w' → (∀ w'', ShV w'' k o n ⟨none, 0, 0⟩ ⟨none, 0, 0⟩ s) → K k o n ⟨none, 0, 0⟩ ⟨none, 0, 0⟩ R w') : callG Tryz.prog f args [.agg [.int .i64, .str, .str, .slice, .slice]] K R w :=
  call_ok hc fun _ w' ⟨k, o, n, he, F, hv⟩ => ⟨((k, o, n, ⟨none, 0, 0⟩, ⟨none, 0, 0⟩, ()), ()), he, h k o n w' F hv⟩
def eB : ByteArray := ByteArray.mk #[]
theorem pupper_ok {w : World} (a b : ByteArray) (ha : a.size < 4611686018427387904) (hb : b.size < 4611686018427387904) : Calls Tryz.prog 183 #[.string a, .string b] w (UpP w (upperS (bl a) (bl b))) := by
  apply c183
  unfold t183
  refine new_ok fun w1 m2 hm2 hs1 B1 F1 => ?_
  have out : ∀ (k : Int) (o n : ByteArray) (s : Shape), o.size < 4611686018427387904 → n.size < 4611686018427387904 → s = .mk k (bl o) (bl n) [] [] → ∀ {kk : Int → ByteArray → ByteArray → Sl → Sl → G}, (∀ w', Fr noB w w' → kk k o n ⟨none, 0, 0⟩ ⟨none, 0, 0⟩ (UpP w s) w') →
      stG ⟨m2, 0, none⟩ (.int .i64 k) (stG ⟨m2, 1, none⟩ (.string o) (stG ⟨m2, 2, none⟩ (.string n) (stG ⟨m2, 3, none⟩ (.slice none 0 0) (stG ⟨m2, 4, none⟩ (.slice none 0 0) (ldG (.int .i64) ⟨m2, 0, none⟩ (fun (k : Int) => ldG .str ⟨m2, 1, none⟩ (fun (o : ByteArray) => ldG .str ⟨m2, 2, none⟩ (fun (n : ByteArray) => ldG .slice ⟨m2, 3, none⟩ (fun (ns : Sl) => ldG .slice ⟨m2, 4, none⟩ (fun (ps : Sl) => kk k o n ns ps)))))))))) (UpP w s) w1 := by
    intro k o n s _ _ _ kk hkk
    refine fill_ok B1 rfl rfl rfl rfl rfl rfl fun w2 B2 F2 => ?_
    change Blk w2 m2 _ (shCells k o n ⟨none, 0, 0⟩ ⟨none, 0, 0⟩) at B2
    exact B2.ldV (hkk w2 (F1.fill (by omega) F2))
  have fin : ∀ (k : Int) (o n : ByteArray) (s : Shape), o.size < 4611686018427387904 → n.size < 4611686018427387904 → s = .mk k (bl o) (bl n) [] [] → ∀ w', Fr noB w w' → (UpP w s) (.returned (shArg k o n ⟨none, 0, 0⟩ ⟨none, 0, 0⟩)) w' := by
    intro k o n s ho hn hs w' F
    exact ⟨k, o, n, rfl, F, fun w'' => by rw [hs]; exact shV_flat ho hn⟩
  have hbl : ∀ x : ByteArray, (bl x = []) = (bl x = bl eB) := fun _ => rfl
  generalize hS : upperS (bl a) (bl b) = S
  have z0 : eB.size < 4611686018427387904 := by decide
  refine join0_ok (fun w' => w' = w1 ∧ upperS (bl a) (bl b) = .mk 9 (bl a) (bl b) [] []) (fun kj hkj => ?_) ?_
  · rw [eq_bl, show bl (ByteArray.mk #[]) = ([] : B) from rfl]
    refine ite_ok (fun h1 => join_in (vs := []) ?_) fun h1 => hkj _ ⟨rfl, ?_⟩
    rotate_left
    · have h1 : ¬ bl a = [] := by simpa using h1
      unfold upperS
      rw [if_neg (fun h => h1 h.1), if_neg (fun h => h1 h.1), if_neg (fun h => h1 h.1), if_neg (fun h => h1 h.1)]
    have h1 : bl a = [] := by simpa using h1
    rw [eq_bl, show bl (ByteArray.mk #[(73 : UInt8), (110 : UInt8), (116 : UInt8)]) = [73, 110, 116] from rfl]
    refine ite_ok (fun h2 => out 1 eB eB S z0 z0 ?_ fun w' F => fin 1 eB eB S z0 z0 ?_ w' F) fun h2 => ?_
    · rw [← hS]; unfold upperS; rw [if_pos ⟨h1, by simpa using h2⟩]; rfl
    · rw [← hS]; unfold upperS; rw [if_pos ⟨h1, by simpa using h2⟩]; rfl
    have h2 : ¬ bl b = [73, 110, 116] := by simpa using h2
    rw [eq_bl, show bl (ByteArray.mk #[(66 : UInt8), (111 : UInt8), (111 : UInt8), (108 : UInt8)]) = [66, 111, 111, 108] from rfl]
    refine ite_ok (fun h3 => ?_) fun h3 => ?_
    · have hs : S = .mk 2 (bl eB) (bl eB) [] [] := by rw [← hS]; unfold upperS; rw [if_neg (fun h => h2 h.2), if_pos ⟨h1, by simpa using h3⟩]; rfl
      exact out 2 eB eB S z0 z0 hs fun w' F => fin 2 eB eB S z0 z0 hs w' F
    have h3 : ¬ bl b = [66, 111, 111, 108] := by simpa using h3
    rw [eq_bl, show bl (ByteArray.mk #[(84 : UInt8), (101 : UInt8), (120 : UInt8), (116 : UInt8)]) = [84, 101, 120, 116] from rfl]
    refine ite_ok (fun h4 => ?_) fun h4 => ?_
    · have hs : S = .mk 3 (bl eB) (bl eB) [] [] := by rw [← hS]; unfold upperS; rw [if_neg (fun h => h2 h.2), if_neg (fun h => h3 h.2), if_pos ⟨h1, by simpa using h4⟩]; rfl
      exact out 3 eB eB S z0 z0 hs fun w' F => fin 3 eB eB S z0 z0 hs w' F
    have h4 : ¬ bl b = [84, 101, 120, 116] := by simpa using h4
    rw [eq_bl, show bl (ByteArray.mk #[(65 : UInt8), (110 : UInt8), (121 : UInt8)]) = [65, 110, 121] from rfl]
    refine ite_ok (fun h5 => ?_) fun h5 => ?_
    · have hs : S = .mk 4 (bl eB) (bl eB) [] [] := by rw [← hS]; unfold upperS; rw [if_neg (fun h => h2 h.2), if_neg (fun h => h3 h.2), if_neg (fun h => h4 h.2), if_pos ⟨h1, by simpa using h5⟩]; rfl
      exact out 4 eB eB S z0 z0 hs fun w' F => fin 4 eB eB S z0 z0 hs w' F
    have h5 : ¬ bl b = [65, 110, 121] := by simpa using h5
    refine hkj _ ⟨rfl, ?_⟩
    unfold upperS
    rw [if_neg (fun h => h2 h.2), if_neg (fun h => h3 h.2), if_neg (fun h => h4 h.2), if_neg (fun h => h5 h.2)]
  · rintro w' ⟨rfl, hu⟩
    have hs : S = .mk 9 (bl a) (bl b) [] [] := by rw [← hS, hu]
    exact out 9 a b S ha hb hs fun w' F => fin 9 a b S ha hb hs w' F
theorem hasText_ok {w : World} {l0 : Sl} {L : List B} (x : ByteArray) (hL : RdS w l0 (L.map bs)) (hl : L.length < 4611686018427387904) : AnsB 204 #[.slice l0.a l0.n l0.c, .string x] w (decide (bl x ∈ L)) := by
  apply c204
  unfold t204
  refine call_ok (indexT_ok x hL hl) ?_
  rintro e w' ⟨n, rfl, F, h⟩
  refine ⟨((n, ()), ()), rfl, ?_, F⟩
  have : decide (n ≥ (0 : Int)) = decide (bl x ∈ L) := by
    refine decide_eq_decide.2 ?_
    rcases h with ⟨rfl, hno⟩ | ⟨i, rfl, hi, _⟩
    · constructor
      · intro h; omega
      · intro h
        obtain ⟨j, hj⟩ := List.mem_iff_getElem?.1 h
        exact absurd hj (hno j)
    · exact ⟨fun _ => List.mem_of_getElem? hi, fun _ => by omega⟩
  show Ending.returned (.bool (decide (n ≥ (0 : Int)))) = _
  rw [this]
theorem pfresh_ok {w : World} {p : Nat} {sl : Sl} {l : List Tok} {s : PS} (h : Cur w p sl l s) {ns : Sl} {names : List B} (hL : RdS w ns (names.map bs)) (hl : names.length < 4611686018427387904) (hR : ∀ w', Fr (oneB p) w w' → RdS w' ns (names.map bs)) :
    Calls Tryz.prog 181 #[.pointer (some ⟨p, 0, none⟩), .slice ns.a ns.n ns.c] w (StepP w p sl l (fresh l names s).2 (.string (bs (fresh l names s).1))) := by
  apply c181
  unfold t181
  refine callTok_ok (Y := fun w' => Cur w' p sl l (take l 1 s).2 ∧ Fr (oneB p) w w') (ptake_ok h 1 (by decide)) fun w1 ⟨h1, F1⟩ => ?_
  generalize htk : take l 1 s = tk at h1
  obtain ⟨t, s1⟩ := tk
  change Cur w1 p sl l s1 at h1
  have hF : fresh l names s = if s1.err = 0 ∧ t.text ∈ names then (t.text, fail 111 t.at' s1) else (t.text, s1) := by
    unfold fresh
    rw [htk]
  have hpw : p < w1.heap.size := h1.b.lt
  refine new_ok fun w2 m5 hm5 hs2 M2 F2 => fill3_ok M2 rfl rfl rfl rfl fun w3 M3 F3 => ?_
  have G3 : Fr noB w1 w3 := F2.fill (by omega) F3
  have h3 := h1.fr0 G3
  have N3 : Fr (oneB p) w w3 := st_fr F1 (G3.mono fun _ _ h => h.elim)
  change Blk w3 m5 _ (tokCells t) at M3
  refine join1_ok (c := .bool) (fun (b : Bool) w' => b = decide (s1.err = 0 ∧ t.text ∈ names) ∧ Fr noB w3 w') (fun kj hkj => callB_ok (pbad_ok h3) fun w4 F4 => ite_ok (fun hb => ?_) fun hb => hkj _ _ ⟨?_, F4⟩) ?_
  · have hb : s1.err = 0 := by simpa using hb
    refine (M3.fr F4 (fun h => h)).ld (c := .str) (x := bs t.text) (o := 1) rfl (callB_ok (hasText_ok (bs t.text) (hR _ (st_fr N3 (F4.mono fun _ _ h => h.elim))) hl) fun w5 F5 => hkj _ _ ⟨?_, F4.tr F5⟩)
    rw [bl_bs]
    exact decide_eq_decide.2 ⟨fun h => ⟨hb, h⟩, fun h => h.2⟩
  · have hb : ¬ s1.err = 0 := by simpa using hb
    rw [decide_eq_false (fun h => hb h.1)]
  rintro b w4 ⟨rfl, F4⟩
  have h4 := h3.fr0 F4
  have M4 := M3.fr F4 (fun h => h)
  have N4 : Fr (oneB p) w w4 := st_fr N3 (F4.mono fun _ _ h => h.elim)
  refine join0_ok (fun w' => Cur w' p sl l (fresh l names s).2 ∧ Fr (oneB p) w4 w') (fun kj hkj => ite_ok (fun hb => M4.ld (c := .int .i64) (x := (t.at' : Int)) (o := 2) rfl (call_ok (pfail_ok h4 111 t.at') ?_)) fun hb => hkj _ ⟨?_, Fr.refl _ _⟩) ?_
  · rintro e w5 ⟨rfl, h5, F5⟩
    refine ⟨(), rfl, hkj _ ⟨?_, F5⟩⟩
    rw [hF, if_pos (of_decide_eq_true hb)]
    exact h5
  · rw [hF, if_neg (of_decide_eq_false hb)]
    exact h4
  rintro w5 ⟨h5, F5⟩
  refine (M4.fr F5 (fun h => by change m5 = p at h; omega)).ld (c := .str) (x := bs t.text) (o := 1) rfl ⟨?_, h5, st_fr N4 F5⟩
  have : (fresh l names s).1 = t.text := by rw [hF]; split <;> rfl
  rw [this]
end Go.Proofs.YticokfpaoiekgaaGreatDoor
end
section
namespace Go.Proofs.YticokfpaoiekgaaGreatDoor
open Go.Lift Go.Lex Go.Shp Go.Prs
theorem set_mid {α : Type} (A z C : List α) (c : Nat) (x : α) (hc : c < z.length) : (A ++ (z ++ C)).set (A.length + c) x = A ++ (z.set c x ++ C) := by
  rw [List.set_append, if_neg (by omega), Nat.add_sub_cancel_left, List.set_append, if_pos hc]
theorem own_set5 {w : World} {l : Sl} {V : List TV} {z : List Value} (hz : z.length = 5) (own : w.ownsRow 0 25 5 (.slice l.a l.n l.c) (V.length + 1) (V.flatMap tvCells ++ z)) :
    ∃ g, l.a = some ⟨g, 0, none⟩ ∧ l.n = V.length + 1 ∧ ∀ (v : TV) {K : G} {R : Ending → World → Prop} {w1 : World}, w1.ownsRow 0 25 5 (.slice l.a l.n l.c) (V.length + 1) (V.flatMap tvCells ++ z) →
      (∀ w', w'.ownsRow 0 25 5 (.slice l.a l.n l.c) (V ++ [v]).length ((V ++ [v]).flatMap tvCells) → Fr (oneB g) w1 w' → K R w') →
      stG ⟨g, V.length * 5, none⟩ (.int .i64 v.1) (stG ⟨g, V.length * 5 + 1, none⟩ (.string v.2.1) (stG ⟨g, V.length * 5 + 2, none⟩ (.string v.2.2.1) (stG ⟨g, V.length * 5 + 3, none⟩ (.slice v.2.2.2.1.a v.2.2.2.1.n v.2.2.2.1.c) (stG ⟨g, V.length * 5 + 4, none⟩ (.slice v.2.2.2.2.a v.2.2.2.2.n v.2.2.2.2.c) K)))) R w1 := by
  rcases own.2 with ⟨h1, h2⟩ | ⟨g, cap, cur, h1, h0, hg, h3, h4, h5, h6⟩
  · omega
  obtain ⟨la, ln, lc⟩ := l
  cases h1
  refine ⟨g, rfl, rfl, fun v {K R w1} own1 hk => ?_⟩
  rcases own1.2 with ⟨q1, q2⟩ | ⟨g', cap', cur', q1, q0, qg, q3, q4, q5, q6⟩
  · omega
  cases q1
  have hfl : (V.flatMap tvCells).length = V.length * 5 := flat_length tvCells 5 (fun _ _ => rfl)
  have hB : Blk w1 g 25 (V.flatMap tvCells ++ (z ++ cur'.toList.drop ((V.length + 1) * 5))) := by
    unfold Blk
    rw [qg, ← List.append_assoc, ← q6, List.take_append_drop]
  match z, hz with
  | [z0, z1, z2, z3, z4], _ =>
    have hlen : (V.flatMap tvCells ++ ([z0, z1, z2, z3, z4] ++ cur'.toList.drop ((V.length + 1) * 5))).length = V.length * 5 + 5 + (cur'.toList.drop ((V.length + 1) * 5)).length := by
      rw [List.length_append, hfl, List.length_append]
      simp only [List.length_cons, List.length_nil]
      omega
    have e : ∀ (c : Nat) (x : Value) (y : List Value), c < y.length → (V.flatMap tvCells ++ (y ++ cur'.toList.drop ((V.length + 1) * 5))).set (V.length * 5 + c) x = V.flatMap tvCells ++ (y.set c x ++ cur'.toList.drop ((V.length + 1) * 5)) := fun c x y hc => by
      rw [← hfl]
      exact set_mid _ _ _ c x hc
    have hin : ∀ (y : List Value) (c : Nat), y.length = 5 → c < 5 → V.length * 5 + c < (V.flatMap tvCells ++ (y ++ cur'.toList.drop ((V.length + 1) * 5))).length := fun y c hy hc => by
      rw [List.length_append, hfl, List.length_append]
      omega
    refine hB.st rfl (hin [z0, z1, z2, z3, z4] 0 rfl (by omega)) fun w2 B2 F2 => ?_
    rw [← Nat.add_zero (V.length * 5), e 0 _ [z0, z1, z2, z3, z4] (by simp)] at B2
    refine B2.st rfl (hin _ 1 rfl (by omega)) fun w3 B3 F3 => ?_
    rw [e 1 _ _ (by simp)] at B3
    refine B3.st rfl (hin _ 2 rfl (by omega)) fun w4 B4 F4 => ?_
    rw [e 2 _ _ (by simp)] at B4
    refine B4.st rfl (hin _ 3 rfl (by omega)) fun w5 B5 F5 => ?_
    rw [e 3 _ _ (by simp)] at B5
    refine B5.st rfl (hin _ 4 rfl (by omega)) fun w6 B6 F6 => ?_
    rw [e 4 _ _ (by simp)] at B6
    refine hk w6 ?_ (st_fr (st_fr (st_fr (st_fr F2 F3) F4) F5) F6)
    have hc2 : ((V ++ [v]).flatMap tvCells).length = (V ++ [v]).length * 5 := flat_length tvCells 5 (fun _ _ => rfl)
    have hvl : (V ++ [v]).length = V.length + 1 := by simp
    have hcs : (V ++ [v]).flatMap tvCells = V.flatMap tvCells ++ tvCells v := by simp
    refine ⟨hc2, .inr ⟨g, lc, _, by rw [hvl], Nat.zero_le _, B6, by rw [hvl]; exact q3, q4, ?_, ?_⟩⟩
    · rw [List.size_toArray, List.length_append, hfl, List.length_append, List.length_drop]
      have q5' : cur'.toList.length = lc * 5 := q5
      change V.length + 1 ≤ lc at q3
      simp only [List.length_set, List.length_cons, List.length_nil]
      omega
    · rw [List.toList_toArray, ← List.append_assoc, List.take_left' (by rw [hvl, List.length_append, hfl]; simp only [List.length_set, List.length_cons, List.length_nil]; omega), hcs]
      rfl
structure Bld (w : World) (mX m1 m3 p : Nat) (k : Int) (ns ps : Sl) (names : List B) (Q : List Shape) : Prop where
  b1 : ∃ T, Blk w m1 T [.pointer (some ⟨p, 0, none⟩)]
  b3 : Blk w m3 25 (shCells k eB eB ns ps)
  le : p < m1 ∧ p < m3 ∧ m1 ≤ mX ∧ m3 ≤ mX ∧ m1 < m3 ∧ mX < w.heap.size
  row : ∃ V, w.ownsRow 0 25 5 (.slice ps.a ps.n ps.c) V.length (V.flatMap tvCells) ∧ SP w (fun b => b ≤ mX ∨ (∃ a, ns.a = some a ∧ a.block = b) ∨ (∃ a, ps.a = some a ∧ a.block = b)) V Q
  ownN : w.ownsRow 0 9 1 (.slice ns.a ns.n ns.c) names.length (names.map fun x => Value.string (bs x))
  belN : ∀ a, ns.a = some a → mX < a.block ∧ a.block < w.heap.size
  belP : ∀ a, ps.a = some a → mX < a.block ∧ a.block < w.heap.size
  apart : ∀ a c, ns.a = some a → ps.a = some c → a.block ≠ c.block
  nz : ∀ x ∈ names, x.length < 4611686018427387904
theorem SP.snoc {w : World} {S : Nat → Prop} {V : List TV} {Q : List Shape} {v : TV} {q : Shape} (h : SP w S V Q) (h1 : ∀ w', Fr S w w' → ShT w' v q) : SP w S (V ++ [v]) (Q ++ [q]) := by
  refine ⟨by rw [List.length_append, List.length_append, h.1]; rfl, fun j a b ha hb w' F => ?_⟩
  rcases Nat.lt_or_ge j V.length with hj | hj
  · rw [List.getElem?_append_left hj] at ha
    rw [List.getElem?_append_left (by have := h.1; omega)] at hb
    exact h.2 j a b ha hb w' F
  · rw [List.getElem?_append_right hj] at ha
    rw [List.getElem?_append_right (by have := h.1; omega)] at hb
    have hl := h.1
    have hj0 : j - V.length = 0 := by
      have := (List.getElem?_eq_some_iff.1 ha).1
      simp at this
      omega
    rw [hj0] at ha
    rw [show j - Q.length = 0 by omega] at hb
    simp at ha hb
    subst ha hb
    exact h1 w' F
section
variable {R : Ending → World → Prop} {w : World} {mX m1 m3 p : Nat} {k : Int} {ns ps : Sl} {names : List B} {Q : List Shape}
theorem Bld.fr (I : Bld w mX m1 m3 p k ns ps names Q) {w' : World} (F : Fr (oneB p) w w') : Bld w' mX m1 m3 p k ns ps names Q := by
  obtain ⟨l1, l2, l3, l4, l5, l6⟩ := I.le
  have hz := F.size
  obtain ⟨V, oP, sP⟩ := I.row
  obtain ⟨T, b1⟩ := I.b1
  refine ⟨⟨T, b1.fr F (fun h => by change m1 = p at h; omega)⟩, I.b3.fr F (fun h => by change m3 = p at h; omega), ⟨l1, l2, l3, l4, l5, by omega⟩, ⟨V, own_cells oP F fun a ha h => ?_, sP.go (F.mono fun x _ h => .inl (by change x = p at h; omega)) fun x _ h => h⟩, own_cells I.ownN F fun a ha h => ?_, fun a ha => ?_, fun a ha => ?_, I.apart, I.nz⟩
  · have := I.belP a ha
    change a.block = p at h
    omega
  · have := I.belN a ha
    change a.block = p at h
    omega
  · have := I.belN a ha
    omega
  · have := I.belP a ha
    omega
theorem Bld.fr0 (I : Bld w mX m1 m3 p k ns ps names Q) {w' : World} (F : Fr noB w w') : Bld w' mX m1 m3 p k ns ps names Q := I.fr (F.mono fun _ _ h => h.elim)
abbrev zeroS : Array Value := #[.int .i64 0, .string (ByteArray.mk #[]), .string (ByteArray.mk #[]), .slice none 0 0, .slice none 0 0]
theorem pushEnd_ok {sl : Sl} {l : List Tok} {s1 : PS} (I : Bld w mX m1 m3 p k ns ps names Q) (hQ : Q.length ≤ 100000) (C : Cur w p sl l s1) {m : Nat} (M : Blk w m 25 zeroS.toList) (_ : mX < m) {k1 : Int} {o1 n1 : ByteArray} {ns1 ps1 : Sl} {q : Shape}
    (hv : ∀ w', Fr (fun b => b ≤ mX ∨ (∃ a, ns.a = some a ∧ a.block = b) ∨ (∃ a, ps.a = some a ∧ a.block = b)) w w' → ShV w' k1 o1 n1 ns1 ps1 q) {K : G}
    (hk : ∀ ps' w', Bld w' mX m1 m3 p k ns ps' names (Q ++ [q]) → Cur w' p sl l s1 → Fr (fun b => b = m3 ∨ ∃ a, ps.a = some a ∧ a.block = b) w w' → K R w') :
    opG Tryz.prog (Builtin.append_ #[23, 23] 23 #[.slice ps.a ps.n ps.c, .slice (some ⟨m, 0, none⟩) 1 1]) (.one .slice) (fun (l10 : Sl) => idxG l10.a l10.n ((ps.n : Nat) : Int) 5 fun (a11 : Addr) => bothG
      (stG (a11.add 0) (.int .i64 k1) (stG (a11.add 1) (.string o1) (stG (a11.add 2) (.string n1) (stG (a11.add 3) (.slice ns1.a ns1.n ns1.c) (stG (a11.add 4) (.slice ps1.a ps1.n ps1.c) (stG ⟨m3, 4, none⟩ (.slice l10.a l10.n l10.c) K))))))
      (stG ⟨m3, 4, none⟩ (.slice l10.a l10.n l10.c) (stG (a11.add 0) (.int .i64 k1) (stG (a11.add 1) (.string o1) (stG (a11.add 2) (.string n1) (stG (a11.add 3) (.slice ns1.a ns1.n ns1.c) (stG (a11.add 4) (.slice ps1.a ps1.n ps1.c) K))))))) R w := by
  obtain ⟨iP, zP, hiP, hzP, p1, p2, p3⟩ := infoShape
  obtain ⟨l1, l2, l3, l4, l5, l6⟩ := I.le
  obtain ⟨V, oP, sP⟩ := I.row
  obtain ⟨T, b1⟩ := I.b1
  have hVQ := sP.1
  have hpn : ps.n = V.length := by
    obtain ⟨s', hs', hn, _⟩ := slice_of_own oP
    simp only [Value.slice.injEq] at hs'
    rw [hs'.2.1, hn]
  refine append_ok uShapes hiP hzP p1 p2 p3 (by omega) (s := ps) oP (m := 1) (news := zeroS.toList) rfl (M.held fun j v hj => by rw [Nat.zero_add]; exact hj) (fun u hu => ?_) (by unfold maxLen; omega) (by omega) fun l10 w2 own2 F2 ha2 => ?_
  · simp only [List.mem_cons, List.not_mem_nil, or_false] at hu
    rcases hu with rfl | rfl | rfl | rfl | rfl <;> rfl
  have hz2 := F2.size
  obtain ⟨g, hga, hgn, hset⟩ := own_set5 (z := zeroS.toList) rfl own2
  have hgX : mX < g ∧ g < w2.heap.size ∧ (∀ a, ns.a = some a → a.block ≠ g) := by
    rcases ha2 _ hga with h | h
    · have := I.belP _ h
      exact ⟨this.1, by have := this.2; change g < _ at this; omega, fun a ha => I.apart a _ ha h⟩
    · change _ ≤ g ∧ g < _ at h
      exact ⟨by omega, h.2, fun a ha => by have := (I.belN a ha).2; omega⟩
  have B3 : Blk w2 m3 _ (shCells k eB eB ns ps) := I.b3.fr F2 fun ⟨a, h1, h2⟩ => by have := (I.belP a h1).1; omega
  have fin : ∀ w4, Fr (fun b => b = g ∨ b = m3) w2 w4 → Blk w4 m3 25 (shCells k eB eB ns l10) → w4.ownsRow 0 25 5 (.slice l10.a l10.n l10.c) (V ++ [(k1, o1, n1, ns1, ps1)]).length ((V ++ [(k1, o1, n1, ns1, ps1)]).flatMap tvCells) → K R w4 := by
    intro w4 F4 B4 own4
    have hz4 := F4.size
    have F24 : Fr (fun b => b = m3 ∨ ∃ a, ps.a = some a ∧ a.block = b) w w4 := by
      refine (F2.trans F4).mono fun x hx h => ?_
      rcases h with h | ⟨h | h, h3⟩
      · exact .inr h
      · subst h
        rcases ha2 _ hga with h | h
        · exact .inr ⟨_, h, rfl⟩
        · change _ ≤ x ∧ _ at h
          omega
      · exact .inl h
    have FS : Fr (fun b => b ≤ mX ∨ (∃ a, ns.a = some a ∧ a.block = b) ∨ (∃ a, ps.a = some a ∧ a.block = b)) w w4 := F24.mono fun x _ h => h.elim (fun h => .inl (by omega)) fun h => .inr (.inr h)
    have hS : ∀ x, x < w.heap.size → (x ≤ mX ∨ (∃ a, ns.a = some a ∧ a.block = x) ∨ (∃ a, l10.a = some a ∧ a.block = x)) → (x ≤ mX ∨ (∃ a, ns.a = some a ∧ a.block = x) ∨ (∃ a, ps.a = some a ∧ a.block = x)) := by
      rintro x hx (h | h | ⟨a, h1, h2⟩)
      · exact .inl h
      · exact .inr (.inl h)
      · rcases ha2 a h1 with h | h
        · exact .inr (.inr ⟨a, h, h2⟩)
        · omega
    refine hk l10 w4 ⟨⟨T, b1.fr F24 fun h => ?_⟩, B4, ⟨l1, l2, l3, l4, l5, by omega⟩, ⟨_, own4, SP.snoc (sP.go FS hS) fun w' F' => hv w' (FS.then F' hS)⟩, own_cells I.ownN F24 fun a ha h => ?_, fun a ha => ?_, fun a ha => ?_, fun a c ha hc => ?_, I.nz⟩ (C.fr F24 fun b hb h => ?_) F24
    · rcases h with h | ⟨a, h1, h2⟩
      · omega
      · have := (I.belP a h1).1
        omega
    · rcases h with h | ⟨c, h1, h2⟩
      · have := (I.belN a ha).1
        omega
      · exact I.apart a c ha h1 h2.symm
    · have := I.belN a ha
      omega
    · rw [hga] at ha
      cases ha
      exact ⟨hgX.1, by show g < _; omega⟩
    · rw [hga] at hc
      cases hc
      exact hgX.2.2 a ha
    · rcases h with h | ⟨a, h1, h2⟩
      · omega
      · have := (I.belP a h1).1
        omega
  rw [hga, hgn, hpn]
  refine idxB_ok (n := V.length + 1) (i := V.length) (by omega) ?_
  simp only [Addr.add_lit, Nat.zero_add, Nat.add_zero]
  have hgm : g ≠ m3 := by omega
  refine both_ok ?_ ?_
  · refine hset (k1, o1, n1, ns1, ps1) own2 fun w3 own3 F3 => ?_
    refine (B3.fr F3 (fun h => hgm h.symm)).st (o := 4) rfl (by simp [shCells]) fun w4 B4 F4 => ?_
    rw [← hga, ← hgn] at B4
    refine fin w4 ((F3.trans F4).mono fun x _ h => h.elim .inl fun h => .inr h.1) B4 (own_cells own3 F4 fun a ha h => ?_)
    rw [hga] at ha
    cases ha
    exact hgm h
  · refine B3.st (o := 4) rfl (by simp [shCells]) fun w3 B3' F3 => ?_
    have own3 := own_cells own2 F3 fun a ha h => by
      rw [hga] at ha
      cases ha
      exact hgm h
    refine hset (k1, o1, n1, ns1, ps1) own3 fun w4 own4 F4 => ?_
    have B4 := B3'.fr F4 (fun h => hgm h.symm)
    rw [← hga, ← hgn] at B4
    exact fin w4 ((F3.trans F4).mono fun x _ h => h.elim .inr fun h => .inl h.1) B4 own4
end
end Go.Proofs.YticokfpaoiekgaaGreatDoor
end
