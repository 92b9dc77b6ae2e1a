/- The law behind: one part of its proof (joined by program out of my own texts). No condition. -/
import Derived.Test.YtngfnokbdcjoeaaGreatDoorVatAY
section
namespace Go.Tms
open Go.Lex Go.Shp
section
variable {o n : B} {z a : Int} {ns vs : List B} {ss : List Shape} {ps : List Tm} {k : Int}
theorem tfit_mk : tfit (.mk k o n z ns vs ss ps a) = (!tbad k o z ss a && tkind k o n z ns vs ss ps) := rfl
theorem tfit_bad (h : tbad k o z ss a = true) : tfit (.mk k o n z ns vs ss ps a) = false := by
 rw [tfit_mk, h]
 rfl
theorem tfit1 (h : tbad 1 o z ss a = false) : tfit (.mk 1 o n z ns vs ss ps a) = (n.isEmpty && decide (0 ≤ z) && decide (z ≤ 999999999999999) && troom ns vs ss ps 0 0 0 0) := by
 rw [tfit_mk, h]
 rfl
theorem tfit2 (h : tbad 2 o z ss a = false) : tfit (.mk 2 o n z ns vs ss ps a) = (tquot n && troom ns vs ss ps 0 0 0 0) := by
 rw [tfit_mk, h]
 rfl
theorem tfit3 (h : tbad 3 o z ss a = false) : tfit (.mk 3 o n z ns vs ss ps a) = (n.isEmpty && troom ns vs ss ps 0 0 0 0) := by
 rw [tfit_mk, h]
 rfl
theorem tfit4 (h : tbad 4 o z ss a = false) : tfit (.mk 4 o n z ns vs ss ps a) = (n.isEmpty && troom ns vs ss ps 0 0 0 0) := by
 rw [tfit_mk, h]
 rfl
theorem tfit5 (h : tbad 5 o z ss a = false) : tfit (.mk 5 o n z ns vs ss ps a) = (isName n && (o.isEmpty || isName o) && troom ns vs ss ps 0 0 0 0) := by
 rw [tfit_mk, h]
 rfl
theorem tfit6 (h : tbad 6 o z ss a = false) : tfit (.mk 6 o n z ns vs ss ps a) = (n.isEmpty && decide (ns.length ≤ 4096) && apartB ns && troom ns vs ss ps ns.length 0 ns.length 1) := by
 rw [tfit_mk, h]
 rfl
theorem tfit7 (h : tbad 7 o z ss a = false) : tfit (.mk 7 o n z ns vs ss ps a) = (n.isEmpty && decide (0 < ps.length) && troom ns vs ss ps 0 0 0 ps.length) := by
 rw [tfit_mk, h]
 rfl
theorem tfit8 (h : tbad 8 o z ss a = false) : tfit (.mk 8 o n z ns vs ss ps a) = (n.isEmpty && apartB ns && troom ns vs ss ps ns.length 0 0 ns.length) := by
 rw [tfit_mk, h]
 rfl
theorem tfit9 (h : tbad 9 o z ss a = false) : tfit (.mk 9 o n z ns vs ss ps a) = (isName n && troom ns vs ss ps 0 0 0 1) := by
 rw [tfit_mk, h]
 rfl
theorem tfit10 (h : tbad 10 o z ss a = false) : tfit (.mk 10 o n z ns vs ss ps a) = (isName n && troom ns vs ss ps 0 0 0 1) := by
 rw [tfit_mk, h]
 rfl
theorem tfit11 (h : tbad 11 o z ss a = false) : tfit (.mk 11 o n z ns vs ss ps a) = (n.isEmpty && troom ns vs ss ps 0 0 1 ps.length) := by
 rw [tfit_mk, h]
 rfl
theorem tfit12 (h : tbad 12 o z ss a = false) : tfit (.mk 12 o n z ns vs ss ps a) = (n.isEmpty && troom ns vs ss ps 0 0 1 3) := by
 rw [tfit_mk, h]
 rfl
theorem tfit13 (h : tbad 13 o z ss a = false) : tfit (.mk 13 o n z ns vs ss ps a) = (n.isEmpty && apartB ns && vs.all isName && troom ns vs ss ps ns.length ns.length (ns.length + 1) (ns.length + 1)) := by
 rw [tfit_mk, h]
 rfl
theorem tfit14 (h : tbad 14 o z ss a = false) : tfit (.mk 14 o n z ns vs ss ps a) = (isName n && troom ns vs ss ps 0 0 0 2) := by
 rw [tfit_mk, h]
 rfl
theorem tfit15 (h : tbad 15 o z ss a = false) : tfit (.mk 15 o n z ns vs ss ps a) = (n.isEmpty && troom ns vs ss ps 0 0 1 1) := by
 rw [tfit_mk, h]
 rfl
theorem tfit16 (h : tbad 16 o z ss a = false) : tfit (.mk 16 o n z ns vs ss ps a) = (isUpper n && troom ns vs ss ps 0 0 0 1) := by
 rw [tfit_mk, h]
 rfl
theorem tfit17 (h : tbad 17 o z ss a = false) : tfit (.mk 17 o n z ns vs ss ps a) = (isUpper n && troom ns vs ss ps 0 0 0 1) := by
 rw [tfit_mk, h]
 rfl
theorem tfit_no (h : tbad k o z ss a = false) (hk : k ≠ 1 ∧ k ≠ 2 ∧ k ≠ 3 ∧ k ≠ 4 ∧ k ≠ 5 ∧ k ≠ 6 ∧ k ≠ 7 ∧ k ≠ 8 ∧ k ≠ 9 ∧ k ≠ 10 ∧ k ≠ 11 ∧ k ≠ 12 ∧ k ≠ 13 ∧ k ≠ 14 ∧ k ≠ 15 ∧ k ≠ 16 ∧ k ≠ 17) : tfit (.mk k o n z ns vs ss ps a) = false := by
 rw [tfit_mk, h]
 unfold tkind
 obtain ⟨h1, h2, h3, h4, h5, h6, h7, h8, h9, h10, h11, h12, h13, h14, h15, h16, h17⟩ := hk
 simp only [h1, h2, h3, h4, h5, h6, h7, h8, h9, h10, h11, h12, h13, h14, h15, h16, h17, if_false, or_self, Bool.and_false]
end
end Go.Tms
namespace Go.Proofs.YtngfnokbdcjoeaaGreatDoor
open Go.Lift Go.Lex Go.Shp Go.Tms
open Go.RowKit Go.Sort
theorem eqRoom (x y : Operand) (a b c d a' b' c' d' : Int) (w : World) : (eqSem .eql 146 x y (.agg #[.int .i64 a, .int .i64 b, .int .i64 c, .int .i64 d]) (.agg #[.int .i64 a', .int .i64 b', .int .i64 c', .int .i64 d'])).run Tryz.prog w = .ok (.bool ((a == a') && ((b == b') && ((c == c') && (d == d'))))) w := by
 have e3 : Tryz.prog.underlying 3 = some (.int .i64) := by kernel_rfl
 have hu := Tryz.underlying146
 have hf : Tryz.prog.fieldsOf 146 = #[{ name := "names", type := 3, offset := 0, embedded := false, tag := "", pkgPath := "pandect/terms", byteOffset := 0 },
    { name := "vars", type := 3, offset := 1, embedded := false, tag := "", pkgPath := "pandect/terms", byteOffset := 8 },
    { name := "shapes", type := 3, offset := 2, embedded := false, tag := "", pkgPath := "pandect/terms", byteOffset := 16 },
    { name := "parts", type := 3, offset := 3, embedded := false, tag := "", pkgPath := "pandect/terms", byteOffset := 24 }] := by
  unfold Program.fieldsOf
  rw [hu]
 have k3 : Tryz.prog.plainKey 3 = true := by kernel_rfl
 simp only [eqSem, Sem.run_bind, run_eqGuard_agg _ _ _ _ _ _ _ Tryz.eqGuardType146, Result.andThen_ok, run_eql_struct]
 rw [run_equalIn_agg _ _ _ _ _ (by rw [hf, hu]) Tryz.stoodInHeld146, hf]
 show Result.andThen ((Op.eqFields 9999 _ _ [_, _, _, _]).run _ _) _ = _
 have p0 := fun w' : World => run_part_plain (P := Tryz.prog) w' k3 (xs := #[.int .i64 a, .int .i64 b, .int .i64 c, .int .i64 d]) (off := 0) (v := .int .i64 a) rfl
 have q0 := fun w' : World => run_part_plain (P := Tryz.prog) w' k3 (xs := #[.int .i64 a', .int .i64 b', .int .i64 c', .int .i64 d']) (off := 0) (v := .int .i64 a') rfl
 have p1 := fun w' : World => run_part_plain (P := Tryz.prog) w' k3 (xs := #[.int .i64 a, .int .i64 b, .int .i64 c, .int .i64 d]) (off := 1) (v := .int .i64 b) rfl
 have q1 := fun w' : World => run_part_plain (P := Tryz.prog) w' k3 (xs := #[.int .i64 a', .int .i64 b', .int .i64 c', .int .i64 d']) (off := 1) (v := .int .i64 b') rfl
 have p2 := fun w' : World => run_part_plain (P := Tryz.prog) w' k3 (xs := #[.int .i64 a, .int .i64 b, .int .i64 c, .int .i64 d]) (off := 2) (v := .int .i64 c) rfl
 have q2 := fun w' : World => run_part_plain (P := Tryz.prog) w' k3 (xs := #[.int .i64 a', .int .i64 b', .int .i64 c', .int .i64 d']) (off := 2) (v := .int .i64 c') rfl
 have p3 := fun w' : World => run_part_plain (P := Tryz.prog) w' k3 (xs := #[.int .i64 a, .int .i64 b, .int .i64 c, .int .i64 d]) (off := 3) (v := .int .i64 d) rfl
 have q3 := fun w' : World => run_part_plain (P := Tryz.prog) w' k3 (xs := #[.int .i64 a', .int .i64 b', .int .i64 c', .int .i64 d']) (off := 3) (v := .int .i64 d') rfl
 have q5 : ∀ (u v : Int) (w' : World), (Op.equalIn 9999 3 (.int .i64 u) (.int .i64 v)).run Tryz.prog w' = .ok (u == v) w' := fun u v w' => run_equalIn_int w' 9998 3 .i64 .i64 u v e3
 simp only [Op.eqFields, ne_eq, String.reduceEq, not_false_eq_true, if_true, Sem.run_bind, p0, p1, p2, p3, q0, q1, q2, q3, Result.andThen_ok, q5, Sem.run_ite, Sem.run_pure]
 cases (a == a') <;> cases (b == b') <;> cases (c == c') <;> cases (d == d') <;> rfl
theorem eqR_ok {x y : Operand} {a b c d a' b' c' d' : Int} {w : World} {R : Ending → World → Prop} {k : Bool → G} (h : k ((a == a') && ((b == b') && ((c == c') && (d == d')))) R w) :
  opG Tryz.prog (eqSem .eql 146 x y (.agg #[.int .i64 a, .int .i64 b, .int .i64 c, .int .i64 d]) (.agg #[.int .i64 a', .int .i64 b', .int .i64 c', .int .i64 d'])) (.one .bool) k R w := by
 refine ⟨(((a == a') && ((b == b') && ((c == c') && (d == d')))), ()), w, ?_, h⟩
 rw [eqRoom]
 rfl
theorem lds4_ok {R : Ending → World → Prop} {w : World} {m : Nat} {t : TypeId} {a b c d : Int} (B : Blk w m t [.int .i64 a, .int .i64 b, .int .i64 c, .int .i64 d]) {K : Int → Int → Int → Int → G} (h : K a b c d R w) :
  ldG (.int .i64) ⟨m, 0, none⟩ (fun (a : Int) => ldG (.int .i64) ⟨m, 1, none⟩ (fun (b : Int) => ldG (.int .i64) ⟨m, 2, none⟩ (fun (c : Int) => ldG (.int .i64) ⟨m, 3, none⟩ (fun (d : Int) => K a b c d)))) R w :=
 B.ld (c := .int .i64) (x := a) (o := 0) rfl (B.ld (c := .int .i64) (x := b) (o := 1) rfl (B.ld (c := .int .i64) (x := c) (o := 2) rfl (B.ld (c := .int .i64) (x := d) (o := 3) rfl h)))
theorem of_ok {w : World} {k z at1 : Int} {o n : ByteArray} {ns vs ss ps : Sl} : Calls Tryz.prog 139 #[tmArg k o n z ns vs ss ps at1] w fun e w' => e = .returned (.agg #[.int .i64 (ns.n : Int), .int .i64 (vs.n : Int), .int .i64 (ss.n : Int), .int .i64 (ps.n : Int)]) ∧ Fr noB w w' := by
 apply c139
 unfold t139 ivZ tvZ svZ ldIZ ldLZ nwZ
 refine new_ok fun w1 m9 hm9 hs1 B1 F1 => new_ok fun w2 m10 hm10 hs2 C2 F2 => ?_
 have B2 := B1.fr F2 (fun h => h)
 change Blk w2 m9 _ (tmCells k o n z ns vs ss ps at1) at B2
 refine B2.ldS (o := 4) rfl (B2.ldS (o := 5) rfl (B2.ldS (o := 6) rfl (B2.ldS (o := 7) rfl ?_)))
 refine C2.st (o := 0) rfl (by simp) fun w3 C3 F3 => C3.st (o := 1) rfl (by simp) fun w4 C4 F4 => C4.st (o := 2) rfl (by simp) fun w5 C5 F5 => C5.st (o := 3) rfl (by simp) fun w6 C6 F6 => ?_
 change Blk w6 m10 _ [.int .i64 (ns.n : Int), .int .i64 (vs.n : Int), .int .i64 (ss.n : Int), .int .i64 (ps.n : Int)] at C6
 exact lds4_ok C6 ⟨rfl, (F1.tr F2).fill (by omega) (st_fr (st_fr (st_fr F3 F4) F5) F6)⟩
theorem callI4_ok {R : Ending → World → Prop} {w : World} {f : FuncId} {args : Array Value} {Y : World → Prop} {a b c d : Int} (hc : Calls Tryz.prog f args w fun e w' => e = .returned (.agg #[.int .i64 a, .int .i64 b, .int .i64 c, .int .i64 d]) ∧ Y w') {k : Int → Int → Int → Int → G} (h : ∀ w', Y w' → k a b c d R w') : callG Tryz.prog f args [.agg [.int .i64, .int .i64, .int .i64, .int .i64]] k R w :=
 call_ok hc fun _ w' ⟨he, hy⟩ => ⟨((a, b, c, d, ()), ()), he, h w' hy⟩
theorem eqE {n : ByteArray} {n' : B} (en : bl n = n') : (ByteArray.toList n == ByteArray.toList (ByteArray.mk #[])) = n'.isEmpty := by
 rw [eq_bl, en, bl_empty]
 cases n' <;> rfl
set_option maxHeartbeats 4000000 in
theorem tfits_ok {s : Tm} {w : World} {k z at1 : Int} {o n : ByteArray} {ns vs ss ps : Sl} (hv : TmV w k o n z ns vs ss ps at1 s) (hQ : s.kind = 2 → ∀ w', Fr noB w w' → AnsB 142 #[.string n] w' (tquot s.name)) :
  AnsB 109 #[tmArg k o n z ns vs ss ps at1] w (tfit s) := by
 obtain ⟨k', o', n', z', names, vars, shapes, parts, a'⟩ := s
 obtain ⟨ek, eo, en, ez, ea, ⟨hns, hvs, hnl, hvl, hsn, hsl, hpn, hpl, hos, hnz, hxl, hxv⟩, hss, _⟩ := hv.parts
 change k = k' at ek
 change bl o = o' at eo
 change bl n = n' at en
 change z = z' at ez
 change at1 = a' at ea
 change RdS w ns (names.map bs) at hns
 change RdS w vs (vars.map bs) at hvs
 change names.length * 16 ≤ 140737488351232 at hnl
 change vars.length * 16 ≤ 140737488351232 at hvl
 change ss.n = shapes.length at hsn
 change shapes.length < 4611686018427387904 at hsl
 change ps.n = parts.length at hpn
 change ∀ x ∈ names, x.length < 4611686018427387904 at hxl
 change ∀ x ∈ vars, x.length < 4611686018427387904 at hxv
 change ShL w ss.a 0 shapes at hss
 change k' = 2 → ∀ w', Fr noB w w' → AnsB _ #[.string n] w' (tquot n') at hQ
 have hnn := hns.1
 have hvn := hvs.1
 rw [List.length_map] at hnn hvn
 subst ek ez ea
 apply c109
 unfold t109 wrZ ivZ tvZ svZ ldIZ ldSZ ldLZ nwZ caBZ caZ jn0Z jnBZ
 refine new_ok fun w1 m9 hm9 hs1 B1 F1 => ?_
 change Blk w1 m9 _ (tmCells k o n z ns vs ss ps at1) at B1
 refine B1.ld_tm (callI4_ok of_ok fun w2 F2 => ?_)
 refine new_ok fun w3 m23 hm23 hs3 C3 F3 => C3.st (o := 0) rfl (by simp) fun w4 C4 F4 => C4.st (o := 1) rfl (by simp) fun w5 C5 F5 => C5.st (o := 2) rfl (by simp) fun w6 C6 F6 => C6.st (o := 3) rfl (by simp) fun w7 C7 F7 => ?_
 change Blk w7 m23 _ [.int .i64 (ns.n : Int), .int .i64 (vs.n : Int), .int .i64 (ss.n : Int), .int .i64 (ps.n : Int)] at C7
 have H17 : Fr noB w1 w7 := (F2.tr F3).fill (by have := F2.size; omega) (st_fr (st_fr (st_fr F4 F5) F6) F7)
 have H7 : Fr noB w w7 := F1.tr H17
 have B7 := B1.fr H17 (fun h => h)
 have hE := eqE en
 have hEo := eqE eo
 have tE : ∀ {b : B}, (!b.isEmpty) = true → b ≠ [] := fun h => by rintro rfl; cases h
 have tE' : ∀ {b : B}, (!b.isEmpty) = false → b = [] := fun {b} h => by cases b <;> first | rfl | cases h
 refine join1_ok (c := .bool) (fun (b : Bool) w' => b = tbad k o' z shapes at1 ∧ Fr noB w7 w') (fun kj hkj => ?_) ?_
 ·have each : ∀ {K : Bool → G} {R : Ending → World → Prop}, (∀ w', Fr noB w7 w' → K (shapes.all typed) R w') → ldG .slice ⟨m9, 6, none⟩ (fun (l : Sl) => callG Tryz.prog 140 #[.slice l.a l.n l.c, .func (.func 141) #[] #[]] [.one .bool] K) R w7 := fun h =>
   B7.ldS (o := 6) rfl (callB_ok (eachTSh_ok (p := typed) (hss.fr H7) hsn hsl ⟨_, #[], rfl, resTyped, fun w8 F8 k1 o1 n1 ns1 ps1 s hv1 _ => by rw [Array.append_empty]; exact typed_ok hv1⟩) fun w8 F8 => h w8 F8)
  have last : (z = 0 ∨ k = 1) → (o' = [] ∨ k = 5) → ¬ at1 < 0 → (!shapes.all typed) = tbad k o' z shapes at1 := fun h1 h2 h3 => by
   unfold tbad
   rw [Bool.eq_iff_iff, decide_eq_true_eq, Bool.not_eq_true']
   constructor
   ·intro h; exact .inr (.inr (.inr h))
   ·rintro (h | h | h | h)
    ·exact absurd h h3
    ·exact absurd h (by rintro ⟨a, b⟩; rcases h1 with h1 | h1; exact a h1; exact b h1)
    ·exact absurd h (by rintro ⟨a, b⟩; rcases h2 with h2 | h2; exact a h2; exact b h2)
    ·exact h
  refine B7.ld (c := .int .i64) (x := at1) (o := 8) rfl (ite_ok (fun h => hkj _ _ ⟨?_, Fr.refl _ _⟩) fun h0 => ?_)
  ·have h := of_decide_eq_true h
   exact (decide_eq_true (.inl h)).symm
  have h0 : ¬ at1 < 0 := of_decide_eq_false h0
  have second : ∀ {R : Ending → World → Prop}, (z = 0 ∨ k = 1) → (∀ b w', b = tbad k o' z shapes at1 ∧ Fr noB w7 w' → kj b R w') → ldG .str ⟨m9, 1, none⟩ (fun (s : ByteArray) => iteG (!ByteArray.toList s == ByteArray.toList (ByteArray.mk #[])) (ldG (.int .i64) ⟨m9, 0, none⟩ fun (n : Int) => iteG (n != 5) (kj true) (ldG .slice ⟨m9, 6, none⟩ (fun (l : Sl) => callG Tryz.prog 140 #[.slice l.a l.n l.c, .func (.func 141) #[] #[]] [.one .bool] fun (b : Bool) => kj (!b)))) (ldG .slice ⟨m9, 6, none⟩ (fun (l : Sl) => callG Tryz.prog 140 #[.slice l.a l.n l.c, .func (.func 141) #[] #[]] [.one .bool] fun (b : Bool) => kj (!b)))) R w7 := fun {R} hz hkj => by
   refine B7.ld (c := .str) (x := o) (o := 1) rfl ?_
   rw [hEo]
   refine ite_ok (fun h1 => B7.ld (c := .int .i64) (x := k) (o := 0) rfl (ite_ok (fun h2 => hkj _ _ ⟨?_, Fr.refl _ _⟩) fun h2 => each fun w8 F8 => hkj _ _ ⟨?_, F8⟩)) fun h1 => each fun w8 F8 => hkj _ _ ⟨?_, F8⟩
   ·exact (decide_eq_true (.inr (.inr (.inl ⟨tE h1, by simpa using h2⟩)))).symm
   ·exact last hz (.inr (by simpa using h2)) h0
   ·exact last hz (.inl (tE' h1)) h0
  refine B7.ld (c := .int .i64) (x := z) (o := 3) rfl (ite_ok (fun h1 => B7.ld (c := .int .i64) (x := k) (o := 0) rfl (ite_ok (fun h2 => hkj _ _ ⟨?_, Fr.refl _ _⟩) fun h2 => second (.inr (by simpa using h2)) hkj)) fun h1 => second (.inl (by simpa using h1)) hkj)
  exact (decide_eq_true (.inr (.inl ⟨by simpa using h1, by simpa using h2⟩))).symm
 rintro b w8 ⟨rfl, F8⟩
 refine ite_ok (fun hb => ⟨by rw [tfit_bad hb], H7.tr F8⟩) fun hb => ?_
 have H8 := H7.tr F8
 have B8 := B7.fr F8 (fun h => h)
 have C8 := C7.fr F8 (fun h => h)
 clear B7 C7 C6 C5 C4 C3 B1
 have F7' := F7
 refine B8.ld (c := .int .i64) (x := k) (o := 0) rfl (join_in (vs := []) ?_)
 by_cases hk : k = 1
 ·refine ite_yes (beq_iff_eq.2 hk) ?_
  refine join1_ok (c := .bool) (fun (b : Bool) w' => b = tfit (.mk k o' n' z names vars shapes parts at1) ∧ Fr noB w w') (fun kj hkj => ?_) (fun b w' h => done_b h)
  have hft := tfit1 (o := o') (n := n') (z := z) (a := at1) (ns := names) (vs := vars) (ss := shapes) (ps := parts) (by rw [← hk]; exact hb)
  rw [← hk] at hft
  refine B8.ld (c := .str) (x := n) (o := 2) rfl ?_
  rw [hE]
  refine ite_ok (fun c0 => ?_) fun c0 => hkj _ _ ⟨by rw [hft, c0]; simp only [Bool.true_and, Bool.false_and], H8⟩
  refine B8.ld (c := .int .i64) (x := z) (o := 3) rfl (ite_ok (fun c1 => ?_) fun c1 => hkj _ _ ⟨?_, H8⟩)
  rotate_left
  ·have c1 : decide (0 ≤ z) = false := c1
   rw [hft, c0, c1]
   simp only [Bool.true_and, Bool.false_and]
  have c1 : decide (0 ≤ z) = true := c1
  refine B8.ld (c := .int .i64) (x := z) (o := 3) rfl (ite_ok (fun c2 => ?_) fun c2 => hkj _ _ ⟨by rw [hft, c0, c1, c2]; simp only [Bool.true_and, Bool.false_and], H8⟩)
  refine lds4_ok C8 (eqR_ok (hkj _ _ ⟨?_, H8⟩))
  rw [hft, c0, c1, c2]
  simp only [Bool.true_and]
  unfold troom
  rw [Bool.eq_iff_iff]
  simp only [Bool.and_eq_true, beq_iff_eq, decide_eq_true_eq, true_and, and_true]
  omega
 refine ite_no (beq_eq_false_iff_ne.2 hk) ?_
 have hn1 := hk
 clear hk
 by_cases hk : k = 2
 ·refine ite_yes (beq_iff_eq.2 hk) ?_
  refine join1_ok (c := .bool) (fun (b : Bool) w' => b = tfit (.mk k o' n' z names vars shapes parts at1) ∧ Fr noB w w') (fun kj hkj => ?_) (fun b w' h => done_b h)
  have hft := tfit2 (o := o') (n := n') (z := z) (a := at1) (ns := names) (vs := vars) (ss := shapes) (ps := parts) (by rw [← hk]; exact hb)
  rw [← hk] at hft
  refine B8.ld (c := .str) (x := n) (o := 2) rfl (callB_ok (hQ hk _ H8) fun w9 F9 => ?_)
  have H9 := H8.tr F9
  have B9 := B8.fr F9 (fun h => h)
  have C9 := C8.fr F9 (fun h => h)
  refine ite_ok (fun c0 => ?_) fun c0 => hkj _ _ ⟨by rw [hft, c0]; simp only [Bool.true_and, Bool.false_and], H9⟩
  refine lds4_ok C9 (eqR_ok (hkj _ _ ⟨?_, H9⟩))
  rw [hft, c0]
  simp only [Bool.true_and]
  unfold troom
  rw [Bool.eq_iff_iff]
  simp only [Bool.and_eq_true, beq_iff_eq, decide_eq_true_eq, true_and, and_true]
  omega
 refine ite_no (beq_eq_false_iff_ne.2 hk) ?_
 have hn2 := hk
 clear hk
 refine join1_ok (c := .bool) (fun (b : Bool) w' => b = decide (k = 3 ∨ k = 4) ∧ w8 = w') (fun kj hkj => ite_ok (fun h => hkj _ _ ⟨?_, rfl⟩) fun h => hkj _ _ ⟨?_, rfl⟩) ?_
 ·rw [h]; exact (decide_eq_true (.inl (by simpa using h))).symm
 ·have h : ¬ k = 3 := by simpa using h
  rw [Bool.eq_iff_iff, beq_iff_eq, decide_eq_true_eq]
  omega
 rintro b w' ⟨rfl, rfl⟩
 by_cases hk : k = 3
 ·refine ite_yes (decide_eq_true (by omega)) ?_
  refine join1_ok (c := .bool) (fun (b : Bool) w' => b = tfit (.mk k o' n' z names vars shapes parts at1) ∧ Fr noB w w') (fun kj hkj => ?_) (fun b w' h => done_b h)
  have hft := tfit3 (o := o') (n := n') (z := z) (a := at1) (ns := names) (vs := vars) (ss := shapes) (ps := parts) (by rw [← hk]; exact hb)
  rw [← hk] at hft
  refine B8.ld (c := .str) (x := n) (o := 2) rfl ?_
  rw [hE]
  refine ite_ok (fun c0 => ?_) fun c0 => hkj _ _ ⟨by rw [hft, c0]; simp only [Bool.true_and, Bool.false_and], H8⟩
  refine lds4_ok C8 (eqR_ok (hkj _ _ ⟨?_, H8⟩))
  rw [hft, c0]
  simp only [Bool.true_and]
  unfold troom
  rw [Bool.eq_iff_iff]
  simp only [Bool.and_eq_true, beq_iff_eq, decide_eq_true_eq, true_and, and_true]
  omega
 have hn3 := hk
 clear hk
 by_cases hk : k = 4
 ·refine ite_yes (decide_eq_true (by omega)) ?_
  refine join1_ok (c := .bool) (fun (b : Bool) w' => b = tfit (.mk k o' n' z names vars shapes parts at1) ∧ Fr noB w w') (fun kj hkj => ?_) (fun b w' h => done_b h)
  have hft := tfit4 (o := o') (n := n') (z := z) (a := at1) (ns := names) (vs := vars) (ss := shapes) (ps := parts) (by rw [← hk]; exact hb)
  rw [← hk] at hft
  refine B8.ld (c := .str) (x := n) (o := 2) rfl ?_
  rw [hE]
  refine ite_ok (fun c0 => ?_) fun c0 => hkj _ _ ⟨by rw [hft, c0]; simp only [Bool.true_and, Bool.false_and], H8⟩
  refine lds4_ok C8 (eqR_ok (hkj _ _ ⟨?_, H8⟩))
  rw [hft, c0]
  simp only [Bool.true_and]
  unfold troom
  rw [Bool.eq_iff_iff]
  simp only [Bool.and_eq_true, beq_iff_eq, decide_eq_true_eq, true_and, and_true]
  omega
 have hn4 := hk
 clear hk
 refine ite_no (decide_eq_false (by omega)) ?_
 by_cases hk : k = 5
 ·refine ite_yes (beq_iff_eq.2 hk) ?_
  refine join1_ok (c := .bool) (fun (b : Bool) w' => b = tfit (.mk k o' n' z names vars shapes parts at1) ∧ Fr noB w w') (fun kj hkj => ?_) (fun b w' h => done_b h)
  have hft := tfit5 (o := o') (n := n') (z := z) (a := at1) (ns := names) (vs := vars) (ss := shapes) (ps := parts) (by rw [← hk]; exact hb)
  rw [← hk] at hft
  refine B8.ld (c := .str) (x := n) (o := 2) rfl (callB_ok (Name_ok n hnz) fun w9 F9 => ?_)
  rw [en]
  have H9 := H8.tr F9
  have B9 := B8.fr F9 (fun h => h)
  have C9 := C8.fr F9 (fun h => h)
  refine ite_ok (fun c0 => ?_) fun c0 => hkj _ _ ⟨by rw [hft, c0]; simp only [Bool.true_and, Bool.false_and], H9⟩
  have fin : ∀ w', Fr noB w w' → Blk w' m23 146 [.int .i64 (ns.n : Int), .int .i64 (vs.n : Int), .int .i64 (ss.n : Int), .int .i64 (ps.n : Int)] → (o'.isEmpty || isName o') = true → kj (((ns.n : Int) == 0) && (((vs.n : Int) == 0) && (((ss.n : Int) == 0) && ((ps.n : Int) == 0)))) (fun e w' => e = .returned (.bool (tfit (.mk k o' n' z names vars shapes parts at1))) ∧ Fr noB w w') w' := fun w' F _ ho => hkj _ _ ⟨by rw [hft, c0, ho, Bool.true_and, Bool.true_and]; unfold troom; rw [Bool.eq_iff_iff]; simp only [Bool.and_eq_true, beq_iff_eq, decide_eq_true_eq]; omega, F⟩
  refine B9.ld (c := .str) (x := o) (o := 1) rfl ?_
  rw [hEo]
  refine ite_ok (fun c => lds4_ok C9 (eqR_ok (fin _ H9 C9 (by rw [c]; rfl)))) fun c => ?_
  refine B9.ld (c := .str) (x := o) (o := 1) rfl (callB_ok (Name_ok o hos) fun w10 F10 => ?_)
  rw [eo]
  refine ite_ok (fun c' => lds4_ok (C9.fr F10 (fun h => h)) (eqR_ok (fin _ (H9.tr F10) (C9.fr F10 (fun h => h)) (by rw [c']; exact Bool.or_true _)))) fun c' => hkj _ _ ⟨by rw [hft, c0, c, c']; simp only [Bool.true_and, Bool.false_and, Bool.or_false], H9.tr F10⟩
 refine ite_no (beq_eq_false_iff_ne.2 hk) ?_
 have hn5 := hk
 clear hk
 by_cases hk : k = 6
 ·refine ite_yes (beq_iff_eq.2 hk) ?_
  refine join1_ok (c := .bool) (fun (b : Bool) w' => b = tfit (.mk k o' n' z names vars shapes parts at1) ∧ Fr noB w w') (fun kj hkj => ?_) (fun b w' h => done_b h)
  have hft := tfit6 (o := o') (n := n') (z := z) (a := at1) (ns := names) (vs := vars) (ss := shapes) (ps := parts) (by rw [← hk]; exact hb)
  rw [← hk] at hft
  refine B8.ld (c := .str) (x := n) (o := 2) rfl ?_
  rw [hE]
  refine ite_ok (fun c0 => ?_) fun c0 => hkj _ _ ⟨by rw [hft, c0]; simp only [Bool.true_and, Bool.false_and], H8⟩
  refine C8.ld (c := .int .i64) (x := (ns.n : Int)) (o := 0) rfl (ite_ok (fun c1 => ?_) fun c1 => hkj _ _ ⟨?_, H8⟩)
  rotate_left
  ·have c1 := of_decide_eq_false c1
   have c1 : decide (names.length ≤ 4096) = false := decide_eq_false (by omega)
   rw [hft, c0, c1]
   simp only [Bool.true_and, Bool.false_and]
  have c1 : decide (names.length ≤ 4096) = true := decide_eq_true (by have := of_decide_eq_true c1; omega)
  refine B8.ldS (o := 4) rfl (callB_ok (tapart_ok (hns.fr H8) hnl hxl) fun w9 F9 => ?_)
  have H9 := H8.tr F9
  have B9 := B8.fr F9 (fun h => h)
  have C9 := C8.fr F9 (fun h => h)
  refine ite_ok (fun c2 => ?_) fun c2 => hkj _ _ ⟨?_, H9⟩
  rotate_left
  ·have c2 : apartB names = false := c2
   rw [hft, c0, c1, c2]
   simp only [Bool.true_and, Bool.false_and]
  have c2 : apartB names = true := c2
  refine lds4_ok C9 (C9.ld (c := .int .i64) (x := (ns.n : Int)) (o := 0) rfl (C9.ld (c := .int .i64) (x := (ns.n : Int)) (o := 0) rfl (eqR_ok (hkj _ _ ⟨?_, H9⟩))))
  rw [hft, c0, c1, c2]
  simp only [Bool.true_and]
  unfold troom
  rw [Bool.eq_iff_iff]
  simp only [Bool.and_eq_true, beq_iff_eq, decide_eq_true_eq, true_and, and_true]
  omega
 refine ite_no (beq_eq_false_iff_ne.2 hk) ?_
 have hn6 := hk
 clear hk
 by_cases hk : k = 7
 ·refine ite_yes (beq_iff_eq.2 hk) ?_
  refine join1_ok (c := .bool) (fun (b : Bool) w' => b = tfit (.mk k o' n' z names vars shapes parts at1) ∧ Fr noB w w') (fun kj hkj => ?_) (fun b w' h => done_b h)
  have hft := tfit7 (o := o') (n := n') (z := z) (a := at1) (ns := names) (vs := vars) (ss := shapes) (ps := parts) (by rw [← hk]; exact hb)
  rw [← hk] at hft
  refine B8.ld (c := .str) (x := n) (o := 2) rfl ?_
  rw [hE]
  refine ite_ok (fun c0 => ?_) fun c0 => hkj _ _ ⟨by rw [hft, c0]; simp only [Bool.true_and, Bool.false_and], H8⟩
  refine C8.ld (c := .int .i64) (x := (ps.n : Int)) (o := 3) rfl (ite_ok (fun c1 => ?_) fun c1 => hkj _ _ ⟨?_, H8⟩)
  rotate_left
  ·have c1 := of_decide_eq_false c1
   have c1 : decide (0 < parts.length) = false := decide_eq_false (by omega)
   rw [hft, c0, c1]
   simp only [Bool.true_and, Bool.false_and]
  have c1 : decide (0 < parts.length) = true := decide_eq_true (by have := of_decide_eq_true c1; omega)
  refine lds4_ok C8 (C8.ld (c := .int .i64) (x := (ps.n : Int)) (o := 3) rfl (eqR_ok (hkj _ _ ⟨?_, H8⟩)))
  rw [hft, c0, c1]
  simp only [Bool.true_and]
  unfold troom
  rw [Bool.eq_iff_iff]
  simp only [Bool.and_eq_true, beq_iff_eq, decide_eq_true_eq, true_and, and_true]
  omega
 refine ite_no (beq_eq_false_iff_ne.2 hk) ?_
 have hn7 := hk
 clear hk
 by_cases hk : k = 8
 ·refine ite_yes (beq_iff_eq.2 hk) ?_
  refine join1_ok (c := .bool) (fun (b : Bool) w' => b = tfit (.mk k o' n' z names vars shapes parts at1) ∧ Fr noB w w') (fun kj hkj => ?_) (fun b w' h => done_b h)
  have hft := tfit8 (o := o') (n := n') (z := z) (a := at1) (ns := names) (vs := vars) (ss := shapes) (ps := parts) (by rw [← hk]; exact hb)
  rw [← hk] at hft
  refine B8.ld (c := .str) (x := n) (o := 2) rfl ?_
  rw [hE]
  refine ite_ok (fun c0 => ?_) fun c0 => hkj _ _ ⟨by rw [hft, c0]; simp only [Bool.true_and, Bool.false_and], H8⟩
  refine B8.ldS (o := 4) rfl (callB_ok (tapart_ok (hns.fr H8) hnl hxl) fun w9 F9 => ?_)
  have H9 := H8.tr F9
  have B9 := B8.fr F9 (fun h => h)
  have C9 := C8.fr F9 (fun h => h)
  refine ite_ok (fun c1 => ?_) fun c1 => hkj _ _ ⟨?_, H9⟩
  rotate_left
  ·have c1 : apartB names = false := c1
   rw [hft, c0, c1]
   simp only [Bool.true_and, Bool.false_and]
  have c1 : apartB names = true := c1
  refine lds4_ok C9 (C9.ld (c := .int .i64) (x := (ns.n : Int)) (o := 0) rfl (C9.ld (c := .int .i64) (x := (ns.n : Int)) (o := 0) rfl (eqR_ok (hkj _ _ ⟨?_, H9⟩))))
  rw [hft, c0, c1]
  simp only [Bool.true_and]
  unfold troom
  rw [Bool.eq_iff_iff]
  simp only [Bool.and_eq_true, beq_iff_eq, decide_eq_true_eq, true_and, and_true]
  omega
 refine ite_no (beq_eq_false_iff_ne.2 hk) ?_
 have hn8 := hk
 clear hk
 refine join1_ok (c := .bool) (fun (b : Bool) w' => b = decide (k = 9 ∨ k = 10) ∧ w8 = w') (fun kj hkj => ite_ok (fun h => hkj _ _ ⟨?_, rfl⟩) fun h => hkj _ _ ⟨?_, rfl⟩) ?_
 ·rw [h]; exact (decide_eq_true (.inl (by simpa using h))).symm
 ·have h : ¬ k = 9 := by simpa using h
  rw [Bool.eq_iff_iff, beq_iff_eq, decide_eq_true_eq]
  omega
 rintro b w' ⟨rfl, rfl⟩
 by_cases hk : k = 9
 ·refine ite_yes (decide_eq_true (by omega)) ?_
  refine join1_ok (c := .bool) (fun (b : Bool) w' => b = tfit (.mk k o' n' z names vars shapes parts at1) ∧ Fr noB w w') (fun kj hkj => ?_) (fun b w' h => done_b h)
  have hft := tfit9 (o := o') (n := n') (z := z) (a := at1) (ns := names) (vs := vars) (ss := shapes) (ps := parts) (by rw [← hk]; exact hb)
  rw [← hk] at hft
  refine B8.ld (c := .str) (x := n) (o := 2) rfl (callB_ok (Name_ok n hnz) fun w9 F9 => ?_)
  rw [en]
  have H9 := H8.tr F9
  have B9 := B8.fr F9 (fun h => h)
  have C9 := C8.fr F9 (fun h => h)
  refine ite_ok (fun c0 => ?_) fun c0 => hkj _ _ ⟨by rw [hft, c0]; simp only [Bool.true_and, Bool.false_and], H9⟩
  refine lds4_ok C9 (eqR_ok (hkj _ _ ⟨?_, H9⟩))
  rw [hft, c0]
  simp only [Bool.true_and]
  unfold troom
  rw [Bool.eq_iff_iff]
  simp only [Bool.and_eq_true, beq_iff_eq, decide_eq_true_eq, true_and, and_true]
  omega
 have hn9 := hk
 clear hk
 by_cases hk : k = 10
 ·refine ite_yes (decide_eq_true (by omega)) ?_
  refine join1_ok (c := .bool) (fun (b : Bool) w' => b = tfit (.mk k o' n' z names vars shapes parts at1) ∧ Fr noB w w') (fun kj hkj => ?_) (fun b w' h => done_b h)
  have hft := tfit10 (o := o') (n := n') (z := z) (a := at1) (ns := names) (vs := vars) (ss := shapes) (ps := parts) (by rw [← hk]; exact hb)
  rw [← hk] at hft
  refine B8.ld (c := .str) (x := n) (o := 2) rfl (callB_ok (Name_ok n hnz) fun w9 F9 => ?_)
  rw [en]
  have H9 := H8.tr F9
  have B9 := B8.fr F9 (fun h => h)
  have C9 := C8.fr F9 (fun h => h)
  refine ite_ok (fun c0 => ?_) fun c0 => hkj _ _ ⟨by rw [hft, c0]; simp only [Bool.true_and, Bool.false_and], H9⟩
  refine lds4_ok C9 (eqR_ok (hkj _ _ ⟨?_, H9⟩))
  rw [hft, c0]
  simp only [Bool.true_and]
  unfold troom
  rw [Bool.eq_iff_iff]
  simp only [Bool.and_eq_true, beq_iff_eq, decide_eq_true_eq, true_and, and_true]
  omega
 have hn10 := hk
 clear hk
 refine ite_no (decide_eq_false (by omega)) ?_
 by_cases hk : k = 11
 ·refine ite_yes (beq_iff_eq.2 hk) ?_
  refine join1_ok (c := .bool) (fun (b : Bool) w' => b = tfit (.mk k o' n' z names vars shapes parts at1) ∧ Fr noB w w') (fun kj hkj => ?_) (fun b w' h => done_b h)
  have hft := tfit11 (o := o') (n := n') (z := z) (a := at1) (ns := names) (vs := vars) (ss := shapes) (ps := parts) (by rw [← hk]; exact hb)
  rw [← hk] at hft
  refine B8.ld (c := .str) (x := n) (o := 2) rfl ?_
  rw [hE]
  refine ite_ok (fun c0 => ?_) fun c0 => hkj _ _ ⟨by rw [hft, c0]; simp only [Bool.true_and, Bool.false_and], H8⟩
  refine lds4_ok C8 (C8.ld (c := .int .i64) (x := (ps.n : Int)) (o := 3) rfl (eqR_ok (hkj _ _ ⟨?_, H8⟩)))
  rw [hft, c0]
  simp only [Bool.true_and]
  unfold troom
  rw [Bool.eq_iff_iff]
  simp only [Bool.and_eq_true, beq_iff_eq, decide_eq_true_eq, true_and, and_true]
  omega
 refine ite_no (beq_eq_false_iff_ne.2 hk) ?_
 have hn11 := hk
 clear hk
 by_cases hk : k = 12
 ·refine ite_yes (beq_iff_eq.2 hk) ?_
  refine join1_ok (c := .bool) (fun (b : Bool) w' => b = tfit (.mk k o' n' z names vars shapes parts at1) ∧ Fr noB w w') (fun kj hkj => ?_) (fun b w' h => done_b h)
  have hft := tfit12 (o := o') (n := n') (z := z) (a := at1) (ns := names) (vs := vars) (ss := shapes) (ps := parts) (by rw [← hk]; exact hb)
  rw [← hk] at hft
  refine B8.ld (c := .str) (x := n) (o := 2) rfl ?_
  rw [hE]
  refine ite_ok (fun c0 => ?_) fun c0 => hkj _ _ ⟨by rw [hft, c0]; simp only [Bool.true_and, Bool.false_and], H8⟩
  refine lds4_ok C8 (eqR_ok (hkj _ _ ⟨?_, H8⟩))
  rw [hft, c0]
  simp only [Bool.true_and]
  unfold troom
  rw [Bool.eq_iff_iff]
  simp only [Bool.and_eq_true, beq_iff_eq, decide_eq_true_eq, true_and, and_true]
  omega
 refine ite_no (beq_eq_false_iff_ne.2 hk) ?_
 have hn12 := hk
 clear hk
 by_cases hk : k = 13
 ·refine ite_yes (beq_iff_eq.2 hk) ?_
  refine join1_ok (c := .bool) (fun (b : Bool) w' => b = tfit (.mk k o' n' z names vars shapes parts at1) ∧ Fr noB w w') (fun kj hkj => ?_) (fun b w' h => done_b h)
  have hft := tfit13 (o := o') (n := n') (z := z) (a := at1) (ns := names) (vs := vars) (ss := shapes) (ps := parts) (by rw [← hk]; exact hb)
  rw [← hk] at hft
  refine B8.ld (c := .str) (x := n) (o := 2) rfl ?_
  rw [hE]
  refine ite_ok (fun c0 => ?_) fun c0 => hkj _ _ ⟨by rw [hft, c0]; simp only [Bool.true_and, Bool.false_and], H8⟩
  refine B8.ldS (o := 4) rfl (callB_ok (tapart_ok (hns.fr H8) hnl hxl) fun w9 F9 => ?_)
  have H9 := H8.tr F9
  have B9 := B8.fr F9 (fun h => h)
  have C9 := C8.fr F9 (fun h => h)
  refine ite_ok (fun c1 => ?_) fun c1 => hkj _ _ ⟨?_, H9⟩
  rotate_left
  ·have c1 : apartB names = false := c1
   rw [hft, c0, c1]
   simp only [Bool.true_and, Bool.false_and]
  have c1 : apartB names = true := c1
  refine B9.ldS (o := 5) rfl (callB_ok (eachTStr_ok (p := isName) (hvs.fr H9) (by omega) resName fun x hx w1 F1 => (by have h := Name_ok (w := w1) (bs x) (by rw [bs_size]; exact hxv x hx); rwa [bl_bs] at h)) fun w10 F10 => ?_)
  have H10 := H9.tr F10
  have B10 := B9.fr F10 (fun h => h)
  have C10 := C9.fr F10 (fun h => h)
  refine ite_ok (fun c2 => ?_) fun c2 => hkj _ _ ⟨?_, H10⟩
  rotate_left
  ·have c2 : vars.all isName = false := c2
   rw [hft, c0, c1, c2]
   simp only [Bool.true_and, Bool.false_and]
  have c2 : vars.all isName = true := c2
  refine lds4_ok C10 (C10.ld (c := .int .i64) (x := (ns.n : Int)) (o := 0) rfl (C10.ld (c := .int .i64) (x := (ns.n : Int)) (o := 0) rfl (C10.ld (c := .int .i64) (x := (ns.n : Int)) (o := 0) rfl (C10.ld (c := .int .i64) (x := (ns.n : Int)) (o := 0) rfl (eqR_ok (hkj _ _ ⟨?_, H10⟩))))))
  rw [hft, c0, c1, c2]
  rw [wrap_ok (by omega) (by omega)]
  simp only [Bool.true_and]
  unfold troom
  rw [Bool.eq_iff_iff]
  simp only [Bool.and_eq_true, beq_iff_eq, decide_eq_true_eq, true_and, and_true]
  omega
 refine ite_no (beq_eq_false_iff_ne.2 hk) ?_
 have hn13 := hk
 clear hk
 by_cases hk : k = 14
 ·refine ite_yes (beq_iff_eq.2 hk) ?_
  refine join1_ok (c := .bool) (fun (b : Bool) w' => b = tfit (.mk k o' n' z names vars shapes parts at1) ∧ Fr noB w w') (fun kj hkj => ?_) (fun b w' h => done_b h)
  have hft := tfit14 (o := o') (n := n') (z := z) (a := at1) (ns := names) (vs := vars) (ss := shapes) (ps := parts) (by rw [← hk]; exact hb)
  rw [← hk] at hft
  refine B8.ld (c := .str) (x := n) (o := 2) rfl (callB_ok (Name_ok n hnz) fun w9 F9 => ?_)
  rw [en]
  have H9 := H8.tr F9
  have B9 := B8.fr F9 (fun h => h)
  have C9 := C8.fr F9 (fun h => h)
  refine ite_ok (fun c0 => ?_) fun c0 => hkj _ _ ⟨by rw [hft, c0]; simp only [Bool.true_and, Bool.false_and], H9⟩
  refine lds4_ok C9 (eqR_ok (hkj _ _ ⟨?_, H9⟩))
  rw [hft, c0]
  simp only [Bool.true_and]
  unfold troom
  rw [Bool.eq_iff_iff]
  simp only [Bool.and_eq_true, beq_iff_eq, decide_eq_true_eq, true_and, and_true]
  omega
 refine ite_no (beq_eq_false_iff_ne.2 hk) ?_
 have hn14 := hk
 clear hk
 by_cases hk : k = 15
 ·refine ite_yes (beq_iff_eq.2 hk) ?_
  refine join1_ok (c := .bool) (fun (b : Bool) w' => b = tfit (.mk k o' n' z names vars shapes parts at1) ∧ Fr noB w w') (fun kj hkj => ?_) (fun b w' h => done_b h)
  have hft := tfit15 (o := o') (n := n') (z := z) (a := at1) (ns := names) (vs := vars) (ss := shapes) (ps := parts) (by rw [← hk]; exact hb)
  rw [← hk] at hft
  refine B8.ld (c := .str) (x := n) (o := 2) rfl ?_
  rw [hE]
  refine ite_ok (fun c0 => ?_) fun c0 => hkj _ _ ⟨by rw [hft, c0]; simp only [Bool.true_and, Bool.false_and], H8⟩
  refine lds4_ok C8 (eqR_ok (hkj _ _ ⟨?_, H8⟩))
  rw [hft, c0]
  simp only [Bool.true_and]
  unfold troom
  rw [Bool.eq_iff_iff]
  simp only [Bool.and_eq_true, beq_iff_eq, decide_eq_true_eq, true_and, and_true]
  omega
 refine ite_no (beq_eq_false_iff_ne.2 hk) ?_
 have hn15 := hk
 clear hk
 refine join1_ok (c := .bool) (fun (b : Bool) w' => b = decide (k = 16 ∨ k = 17) ∧ w8 = w') (fun kj hkj => ite_ok (fun h => hkj _ _ ⟨?_, rfl⟩) fun h => hkj _ _ ⟨?_, rfl⟩) ?_
 ·rw [h]; exact (decide_eq_true (.inl (by simpa using h))).symm
 ·have h : ¬ k = 16 := by simpa using h
  rw [Bool.eq_iff_iff, beq_iff_eq, decide_eq_true_eq]
  omega
 rintro b w' ⟨rfl, rfl⟩
 by_cases hk : k = 16
 ·refine ite_yes (decide_eq_true (by omega)) ?_
  refine join1_ok (c := .bool) (fun (b : Bool) w' => b = tfit (.mk k o' n' z names vars shapes parts at1) ∧ Fr noB w w') (fun kj hkj => ?_) (fun b w' h => done_b h)
  have hft := tfit16 (o := o') (n := n') (z := z) (a := at1) (ns := names) (vs := vars) (ss := shapes) (ps := parts) (by rw [← hk]; exact hb)
  rw [← hk] at hft
  refine B8.ld (c := .str) (x := n) (o := 2) rfl (callB_ok (Upper_ok n hnz) fun w9 F9 => ?_)
  rw [en]
  have H9 := H8.tr F9
  have B9 := B8.fr F9 (fun h => h)
  have C9 := C8.fr F9 (fun h => h)
  refine ite_ok (fun c0 => ?_) fun c0 => hkj _ _ ⟨by rw [hft, c0]; simp only [Bool.true_and, Bool.false_and], H9⟩
  refine lds4_ok C9 (eqR_ok (hkj _ _ ⟨?_, H9⟩))
  rw [hft, c0]
  simp only [Bool.true_and]
  unfold troom
  rw [Bool.eq_iff_iff]
  simp only [Bool.and_eq_true, beq_iff_eq, decide_eq_true_eq, true_and, and_true]
  omega
 have hn16 := hk
 clear hk
 by_cases hk : k = 17
 ·refine ite_yes (decide_eq_true (by omega)) ?_
  refine join1_ok (c := .bool) (fun (b : Bool) w' => b = tfit (.mk k o' n' z names vars shapes parts at1) ∧ Fr noB w w') (fun kj hkj => ?_) (fun b w' h => done_b h)
  have hft := tfit17 (o := o') (n := n') (z := z) (a := at1) (ns := names) (vs := vars) (ss := shapes) (ps := parts) (by rw [← hk]; exact hb)
  rw [← hk] at hft
  refine B8.ld (c := .str) (x := n) (o := 2) rfl (callB_ok (Upper_ok n hnz) fun w9 F9 => ?_)
  rw [en]
  have H9 := H8.tr F9
  have B9 := B8.fr F9 (fun h => h)
  have C9 := C8.fr F9 (fun h => h)
  refine ite_ok (fun c0 => ?_) fun c0 => hkj _ _ ⟨by rw [hft, c0]; simp only [Bool.true_and, Bool.false_and], H9⟩
  refine lds4_ok C9 (eqR_ok (hkj _ _ ⟨?_, H9⟩))
  rw [hft, c0]
  simp only [Bool.true_and]
  unfold troom
  rw [Bool.eq_iff_iff]
  simp only [Bool.and_eq_true, beq_iff_eq, decide_eq_true_eq, true_and, and_true]
  omega
 have hn17 := hk
 clear hk
 refine ite_no (decide_eq_false (by omega)) ?_
 refine ⟨?_, by first | exact H8 | assumption⟩
 rw [tfit_no hb ⟨hn1, hn2, hn3, hn4, hn5, hn6, hn7, hn8, hn9, hn10, hn11, hn12, hn13, hn14, hn15, hn16, hn17⟩]
def TqC (s : Tm) : Prop := s.kind = 2 → ∀ {w : World} {x : ByteArray}, bl x = s.name → AnsB 142 #[.string x] w (tquot s.name)
theorem resRight : (resOf Tryz.prog 79).isSome = true := by kernel_rfl
theorem tright_ok : ∀ (d : Nat) (s : Tm), tsize s ≤ d → tmP TqC s → ∀ {w : World} {k z at1 : Int} {o n : ByteArray} {ns vs ss ps : Sl}, TmV w k o n z ns vs ss ps at1 s → AnsB 79 #[tmArg k o n z ns vs ss ps at1] w (tright s)
 | 0, s, h, _, _, _, _, _, _, _, _, _, _, _, _ => by have := tsize_pos s; omega
 | d + 1, .mk k' o' n' z' names vars shapes parts a', hd, hq, w, k, z, at1, o, n, ns, vs, ss, ps, hv => by
  rw [tsize_mk] at hd
  rw [tmP] at hq
  obtain ⟨ek, _, en, _, _, ⟨_, _, _, _, _, _, hpn, hpl, _⟩, _, hps⟩ := hv.parts
  change ps.n = parts.length at hpn
  change parts.length < 4611686018427387904 at hpl
  change TmL w ps.a 0 parts at hps
  apply c79
  unfold t79 ivZ tvZ svZ ldIZ ldSZ ldLZ nwZ caBZ jnBZ
  refine new_ok fun w1 m9 hm9 hs1 B1 F1 => ?_
  change Blk w1 m9 _ (tmCells k o n z ns vs ss ps at1) at B1
  have hf : tright (.mk k' o' n' z' names vars shapes parts a') = (tfit (.mk k' o' n' z' names vars shapes parts a') && parts.all tright) := by rw [tright, trights_all]
  refine join1_ok (c := .bool) (fun (b : Bool) w' => b = tright (.mk k' o' n' z' names vars shapes parts a') ∧ Fr noB w w') (fun kj hkj => ?_) (fun b w' h => done_b h)
  refine B1.ld_tm (callB_ok (tfits_ok (hv.fr F1) fun h w' _ => hq.1 h en) fun w2 F2 => ite_ok (fun h => ?_) fun h => hkj _ _ ⟨by rw [hf, h]; rfl, F1.tr F2⟩)
  refine (B1.fr F2 (fun h => h)).ldS (o := 7) rfl (callB_ok (eachTm_ok (p := tright) (hps.fr (F1.tr F2)) hpn hpl ⟨_, #[], rfl, resRight, fun w3 F3 k1 o1 n1 z1 ns1 vs1 ss1 ps1 at11 s hv1 hs => ?_⟩) fun w3 F3 => hkj _ _ ⟨by rw [hf, h]; rfl, (F1.tr F2).tr F3⟩)
  rw [Array.append_empty]
  have := tsize_mem hs
  exact tright_ok d s (by omega) (tmPs_mem hq.2 s hs) hv1
theorem tCheck_ok {s : Tm} (hq : tmP TqC s) {w : World} {k z at1 : Int} {o n : ByteArray} {ns vs ss ps : Sl} (hv : TmV w k o n z ns vs ss ps at1 s) : Calls Tryz.prog 47 #[tmArg k o n z ns vs ss ps at1] w fun e w' => e = .returned (.int .i64 ((tcheck s : Nat) : Int)) ∧ Fr noB w w' := by
 apply c47
 unfold t47 ivZ tvZ svZ ldIZ ldSZ ldLZ nwZ caBZ caZ jn0Z
 refine new_ok fun w1 m9 hm9 hs1 B1 F1 => ?_
 change Blk w1 m9 _ (tmCells k o n z ns vs ss ps at1) at B1
 refine B1.ld_tm (call_ok (tcount_ok 4096 4096 (Nat.le_refl _) s (by omega) (hv.fr F1)) ?_)
 rintro e w2 ⟨⟨a, b, rfl, ha, hb, hd⟩, F2⟩
 refine ⟨(((a : Int), ()), (((b : Int), ()), ())), rfl, join_in (vs := []) ?_⟩
 have F12 := F1.tr F2
 unfold tcheck
 refine ite_ok (fun h => ⟨?_, F12⟩) fun h1 => ?_
 ·have h := of_decide_eq_true h
  rw [if_pos (by omega)]
  rfl
 have h1 := of_decide_eq_false h1
 have hb := hd (by omega)
 rw [if_neg (by omega)]
 refine ite_ok (fun h => ⟨?_, F12⟩) fun h2 => ?_
 ·have h := of_decide_eq_true h
  rw [if_pos (by omega)]
  rfl
 have h2 := of_decide_eq_false h2
 rw [if_neg (by omega)]
 refine (B1.fr F2 (fun h => h)).ld_tm (callB_ok (tright_ok _ s (Nat.le_refl _) hq (hv.fr F12)) fun w3 F3 => ite_ok (fun h => ⟨?_, F12.tr F3⟩) fun h => ⟨?_, F12.tr F3⟩)
 ·have h : tright s = false := by simpa using h
  rw [h]
  rfl
 ·have h : tright s = true := by simpa using h
  rw [h]
  rfl
end Go.Proofs.YtngfnokbdcjoeaaGreatDoor
end
