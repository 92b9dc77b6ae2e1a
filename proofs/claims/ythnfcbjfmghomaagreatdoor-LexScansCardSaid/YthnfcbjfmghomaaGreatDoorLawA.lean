/- Calls of the scanner in a law. No condition. -/
import Derived.Test.YthnfcbjfmghomaaGreatDoorLexO
import Derived.Test.YthnfcbjfmghomaaGreatDoorPlainC
import Derived.Laws.StructEq
import Derived.ChangeKeysEq
namespace Go.Proofs.YthnfcbjfmghomaaGreatDoor
open Go.Lift Go.Lex
section
variable {w : World} {R : Ending → World → Prop}
/-- what a scan handed back, with its fault in a variable -/
def ScanGot (w w' : World) (s : B) (sl : Sl) (m : Nat) : Prop := w.heap.size ≤ m ∧ Fr noB w w' ∧ match scan s with
  | .ok l => Blk w' m 27 [.int .i64 0, .int .i64 0] ∧ w'.ownsRow w.heap.size 32 3 (.slice sl.a sl.n sl.c) l.length (l.flatMap tokCells)
  | .error f => Blk w' m 27 [.int .i64 (f.err : Int), .int .i64 (f.at' : Int)] ∧ sl = ⟨none, 0, 0⟩
theorem scanBox_ok (s : ByteArray) (hg : Glob w) {K : Sl → Nat → G} (h : ∀ sl m w', ScanGot w w' (bl s) sl m → K sl m R w') :
    callG Tryz.prog 19 #[.string s] [.one .slice, .agg [.int .i64, .int .i64]] (fun (l : Sl) (n2 n3 : Int) => newG (.cells #[.int .i64 0, .int .i64 0] 27 (0, 0)) fun m => stG ⟨m, 0, none⟩ (.int .i64 n2) (stG ⟨m, 1, none⟩ (.int .i64 n3) (K l m))) R w := by
  have S1 := Scan_ok s hg
  unfold ScanP at S1
  cases hq : scan (bl s) with
  | error f =>
    rw [hq] at S1
    refine callLF_ok (x := (f.err : Int)) (y := (f.at' : Int)) (Y := fun sl w' => sl = ⟨none, 0, 0⟩ ∧ Fr noB w w') (S1.mono fun en w' h => ⟨⟨none, 0, 0⟩, h.1, rfl, h.2⟩) fun sl w1 ⟨e1, F1⟩ => new_ok fun w2 m hm hs2 B2 F2 => ?_
    refine B2.st (o := 0) rfl (by simp) fun w3 B3 F3 => B3.st (o := 1) rfl (by simp) fun w4 B4 F4 => h _ _ _ ⟨by have := F1.size; omega, (F1.tr F2).then (F3.sq F4) fun y hy h => by have := F1.size; unfold oneB at h; omega, ?_⟩
    rw [hq]
    exact ⟨B4, e1⟩
  | ok l =>
    rw [hq] at S1
    refine callLF_ok (x := 0) (y := 0) (Y := fun sl w' => w'.ownsRow w.heap.size 32 3 (.slice sl.a sl.n sl.c) l.length (l.flatMap tokCells) ∧ Fr noB w w') (S1.mono fun en w' ⟨⟨l, h1, h2⟩, h3⟩ => ⟨l, h1, h2, h3⟩) fun sl w1 ⟨e1, F1⟩ => new_ok fun w2 m hm hs2 B2 F2 => ?_
    refine B2.st (o := 0) rfl (by simp) fun w3 B3 F3 => B3.st (o := 1) rfl (by simp) fun w4 B4 F4 => ?_
    have F14 : Fr noB w1 w4 := F2.then (F3.sq F4) fun y hy h => by unfold oneB at h; omega
    refine h _ _ _ ⟨by have := F1.size; omega, F1.tr F14, ?_⟩
    rw [hq]
    exact ⟨B4, own_fr0 e1 F14⟩
end
theorem eqFault (x y : Operand) (a b c d : Int) (w : World) : (eqSem .eql 27 x y (.agg #[.int .i64 a, .int .i64 b]) (.agg #[.int .i64 c, .int .i64 d])).run Tryz.prog w = .ok (.bool ((a == c) && (b == d))) w := by
  have e25 : Tryz.prog.underlying 25 = some (.int .i64) := by kernel_rfl
  have e3 : Tryz.prog.underlying 3 = some (.int .i64) := by kernel_rfl
  have hu := Tryz.underlying27
  have hf : Tryz.prog.fieldsOf 27 = #[{ name := "Err", type := 25, offset := 0, embedded := false, tag := "", pkgPath := "", byteOffset := 0 },
        { name := "At", type := 3, offset := 1, embedded := false, tag := "", pkgPath := "", byteOffset := 8 }] := by
    unfold Program.fieldsOf
    rw [hu]
  have k25 : Tryz.prog.plainKey 25 = true := by kernel_rfl
  have k3 : Tryz.prog.plainKey 3 = true := by kernel_rfl
  simp only [eqSem, Sem.run_bind, run_eqGuard_agg _ _ _ _ _ _ _ Tryz.eqGuardType27, Result.andThen_ok, run_eql_struct]
  rw [run_equalIn_agg _ _ _ _ _ (by rw [hf, hu]) Tryz.stoodInHeld27, hf]
  show Result.andThen ((Op.eqFields 9999 _ _ [_, _]).run _ _) _ = _
  have q1 := fun w' : World => run_part_plain (P := Tryz.prog) w' k25 (xs := #[.int .i64 a, .int .i64 b]) (off := 0) (v := .int .i64 a) rfl
  have q2 := fun w' : World => run_part_plain (P := Tryz.prog) w' k25 (xs := #[.int .i64 c, .int .i64 d]) (off := 0) (v := .int .i64 c) rfl
  have q3 := fun w' : World => run_part_plain (P := Tryz.prog) w' k3 (xs := #[.int .i64 a, .int .i64 b]) (off := 1) (v := .int .i64 b) rfl
  have q4 := fun w' : World => run_part_plain (P := Tryz.prog) w' k3 (xs := #[.int .i64 c, .int .i64 d]) (off := 1) (v := .int .i64 d) rfl
  have q5 : ∀ w' : World, (Op.equalIn 9999 25 (.int .i64 a) (.int .i64 c)).run Tryz.prog w' = .ok (a == c) w' := fun w' => run_equalIn_int w' 9998 25 .i64 .i64 a c e25
  have q6 : ∀ w' : World, (Op.equalIn 9999 3 (.int .i64 b) (.int .i64 d)).run Tryz.prog w' = .ok (b == d) w' := fun w' => run_equalIn_int w' 9998 3 .i64 .i64 b d e3
  simp only [Op.eqFields, ne_eq, String.reduceEq, not_false_eq_true, if_true, Sem.run_bind, q1, q2, q3, q4, Result.andThen_ok, q5, q6, Sem.run_ite, Sem.run_pure]
  cases (a == c) <;> cases (b == d) <;> rfl
/-- two faults that are the same -/
theorem eqF_ok {x y : Operand} {a b c d : Int} {w : World} {R : Ending → World → Prop} {k : Bool → G} (h1 : a = c) (h2 : b = d) (h : k true R w) : opG Tryz.prog (eqSem .eql 27 x y (.agg #[.int .i64 a, .int .i64 b]) (.agg #[.int .i64 c, .int .i64 d])) (.one .bool) k R w := by
  refine ⟨(true, ()), w, ?_, h⟩
  rw [eqFault, h1, h2]
  simp [VT.val, CT.val]
theorem take_some {α : Type} {l : List α} {n i : Nat} {v : α} (h : (l.take n)[i]? = some v) : l[i]? = some v := by
  rw [List.getElem?_take] at h
  split at h
  · exact h
  · cases h
theorem utok_at {l : List Tok} {k : Nat} {t : Tok} (h : l[k]? = some t) : (l.map utok)[k]? = some (utok t) := by rw [List.getElem?_map, h]; rfl
theorem drop_at {α : Type} {l : List α} {k : Nat} {t : α} (h : l[k]? = some t) : l.drop k = t :: l.drop (k + 1) := by
  obtain ⟨hk, e⟩ := List.getElem?_eq_some_iff.1 h
  rw [List.drop_eq_getElem_cons hk, e]
theorem Plc_at {s : B} : ∀ {l : List Tok} {p : Nat}, Plc s p l → ∀ t ∈ l, t.at' ≤ s.length
  | [], _, h, _, _ => h.elim
  | [z], _, h, t, ht => by
    rw [List.mem_singleton.1 ht, h.2.1]
    exact Nat.le_refl _
  | z :: u :: r, _, h, t, ht => by
    rcases List.mem_cons.1 ht with rfl | ht
    · exact h.2.1
    · exact Plc_at h.2.2.2.2 t ht
/-- a row of tokens that is not empty lies in a block -/
theorem own_blk {w : World} {base : Nat} {l : Sl} {toks : List Tok} (hne : toks ≠ []) (h : w.ownsRow base 32 3 (.slice l.a l.n l.c) toks.length (toks.flatMap tokCells)) :
    ∃ g cur, l.a = some ⟨g, 0, none⟩ ∧ l.n = toks.length ∧ l.n ≤ l.c ∧ l.c ≤ 9223372036854775807 ∧ base ≤ g ∧ g < w.heap.size ∧ Blk w g 32 cur ∧ cur.take (toks.length * 3) = toks.flatMap tokCells := by
  rcases h.2 with ⟨_, h0⟩ | ⟨g, cap, cur, hv, h0, hg, hnc, hcap, hsz, htake⟩
  · exact absurd (List.eq_nil_of_length_eq_zero h0) hne
  · simp only [Value.slice.injEq] at hv
    refine ⟨g, cur.toList, hv.1, hv.2.1, by omega, by unfold maxLen at hcap; omega, h0, (Array.getElem?_eq_some_iff.1 hg).1, hg, ?_⟩
    exact htake
theorem RdT_ownX {w : World} {base : Nat} {l : Sl} {X : List (Int × ByteArray × Int)} (h : w.ownsRow base 32 3 (.slice l.a l.n l.c) X.length (X.flatMap cells3)) : RdT w l X := by
  rcases h.2 with ⟨hv, h0⟩ | ⟨g, cap, cur, hv, _⟩
  · have : X = [] := List.eq_nil_of_length_eq_zero h0
    subst this
    simp only [Value.slice.injEq] at hv
    exact ⟨hv.2.1, fun k x hx => by simp at hx⟩
  · have hc := h.cells (g := g) (by rw [hv]; rfl)
    simp only [Value.slice.injEq] at hv
    refine RdT.of_cells hv.2.1 hv.1 fun j v hj => ?_
    have := hc j v hj
    rw [Addr.add_lit, Nat.zero_add] at this
    exact this
theorem SameP_of {X Y : List (Int × ByteArray × Int)} (h : (X.map fun x => (x.1, x.2.1)) = Y.map fun x => (x.1, x.2.1)) : SameP X Y false := by
  have hl : X.length = Y.length := by
    have := congrArg List.length h
    simpa using this
  refine ⟨hl, fun i x y hx hy => ?_⟩
  have h1 : (X.map fun x => (x.1, x.2.1))[i]? = some (x.1, x.2.1) := by rw [List.getElem?_map, hx]; rfl
  have h2 : (Y.map fun x => (x.1, x.2.1))[i]? = some (y.1, y.2.1) := by rw [List.getElem?_map, hy]; rfl
  rw [h, h2] at h1
  simp only [Option.some.injEq, Prod.mk.injEq] at h1
  exact ⟨h1.1.symm, h1.2.symm, fun h => by cases h⟩
/-- two rows of tokens that are the same but for their places -/
theorem SameP_tok {l m : List Tok} (h : (l.map fun t : Tok => ((t.kind : Int), t.text)) = m.map fun t : Tok => ((t.kind : Int), t.text)) : SameP (l.map utok) (m.map utok) false := by
  refine SameP_of ?_
  have := congrArg (List.map fun x : Int × List UInt8 => (x.1, bs x.2)) h
  simpa [List.map_map, Function.comp_def, utok] using this
theorem utok_back (l : List Tok) : ((l.map utok).map fun x => (x.1, bl x.2.1)) = l.map fun t : Tok => ((t.kind : Int), t.text) := by
  rw [List.map_map]
  exact List.map_congr_left fun t _ => by simp [utok, bl_bs]
end Go.Proofs.YthnfcbjfmghomaaGreatDoor
