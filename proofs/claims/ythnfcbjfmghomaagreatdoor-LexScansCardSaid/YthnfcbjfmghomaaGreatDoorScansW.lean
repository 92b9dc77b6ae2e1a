/- LexScans: the walk. No condition. -/
import Derived.Test.YthnfcbjfmghomaaGreatDoorLawA
import Derived.Test.YthnfcbjfmghomaaGreatDoorRefS
namespace Go.Proofs.YthnfcbjfmghomaaGreatDoor
open Go.Lift Go.Lex
section
variable {w : World} {R : Ending → World → Prop}
theorem rscanBox_ok (s : ByteArray) {K : Sl → Nat → G} (h : ∀ sl m w', ScanGot w w' (bl s) sl m → K sl m R w') :
    callG Tryz.prog 20 #[.string s] [.one .slice, .agg [.int .i64, .int .i64]] (fun (l : Sl) (n2 n3 : Int) => newG (.cells #[.int .i64 0, .int .i64 0] 27 (0, 0)) fun m => stG ⟨m, 0, none⟩ (.int .i64 n2) (stG ⟨m, 1, none⟩ (.int .i64 n3) (K l m))) R w := by
  have S1 := rScan_ok (w := w) s
  unfold ScanP at S1
  cases hq : scan (bl s) with
  | error f =>
    rw [hq] at S1
    refine callLF_ok (x := (f.err : Int)) (y := (f.at' : Int)) (Y := fun sl w' => sl = ⟨none, 0, 0⟩ ∧ Fr noB w w') (S1.mono fun en w' h => ⟨⟨none, 0, 0⟩, h.1, rfl, h.2⟩) fun sl w1 ⟨e1, F1⟩ => new_ok fun w2 m hm hs2 B2 F2 => ?_
    refine B2.st (o := 0) rfl (by simp) fun w3 B3 F3 => B3.st (o := 1) rfl (by simp) fun w4 B4 F4 => h _ _ _ ⟨by have := F1.size; omega, (F1.tr F2).then (F3.sq F4) fun y hy h => by have := F1.size; unfold oneB at h; omega, ?_⟩
    rw [hq]
    exact ⟨B4, e1⟩
  | ok l =>
    rw [hq] at S1
    refine callLF_ok (x := 0) (y := 0) (Y := fun sl w' => w'.ownsRow w.heap.size 32 3 (.slice sl.a sl.n sl.c) l.length (l.flatMap tokCells) ∧ Fr noB w w') (S1.mono fun en w' ⟨⟨l, h1, h2⟩, h3⟩ => ⟨l, h1, h2, h3⟩) fun sl w1 ⟨e1, F1⟩ => new_ok fun w2 m hm hs2 B2 F2 => ?_
    refine B2.st (o := 0) rfl (by simp) fun w3 B3 F3 => B3.st (o := 1) rfl (by simp) fun w4 B4 F4 => ?_
    have F14 : Fr noB w1 w4 := F2.then (F3.sq F4) fun y hy h => by unfold oneB at h; omega
    refine h _ _ _ ⟨by have := F1.size; omega, F1.tr F14, ?_⟩
    rw [hq]
    exact ⟨B4, own_fr0 e1 F14⟩
end
theorem LexScans_ok {w : World} (s : ByteArray) (_ : s.size < 4611686018427387904) (hg : Glob w) : AnsB 4 #[.string s] w true := by
  apply c4
  unfold t4
  refine scanBox_ok s hg fun l1 m4 w1 ⟨hm, F1, H1⟩ => rscanBox_ok s fun l5 m8 w2 ⟨hm2, F2, H2⟩ => ?_
  refine join1_ok (c := .bool) (fun (b : Bool) w' => b = true ∧ Fr noB w w') (fun k hk => ?_) (fun b w' h => done_b h)
  have F12 := F1.tr F2
  have key : ∀ {X : List (Int × ByteArray × Int)} {e a : Int}, X.length ≤ 1000000000 → RdT w2 l1 X → RdT w2 l5 X → Blk w1 m4 27 [.int .i64 e, .int .i64 a] → Blk w2 m8 27 [.int .i64 e, .int .i64 a] → _ := fun {X} {e} {a} hX R1 R5 B4 B8 => by
    refine call_ok (R := fun e w' => e = Ending.returned (Value.bool true) ∧ Fr noB w w') (k := fun (b10 : Bool) => iteG b10 (ldG (CT.int IntKind.i64) (Addr.mk m4 0 Option.none) (fun (n11 : Int) => ldG (CT.int IntKind.i64) (Addr.mk m4 1 Option.none) (fun (n12 : Int) => ldG (CT.int IntKind.i64) (Addr.mk m8 0 Option.none) (fun (n13 : Int) => ldG (CT.int IntKind.i64) (Addr.mk m8 1 Option.none)
      (fun (n14 : Int) => opG Tryz.prog (eqSem BinOp.eql 27 (Operand.tmp 21) (Operand.tmp 22) (Value.agg #[(Value.int IntKind.i64 n11), (Value.int IntKind.i64 n12)]) (Value.agg #[(Value.int IntKind.i64 n13), (Value.int IntKind.i64 n14)])) (VT.one CT.bool) (fun (b15 : Bool) => iteG b15 (callG Tryz.prog 18 #[] [(VT.one CT.bool)] (fun (b16 : Bool) => k b16)) (k false))))))) (k false)) (vs := [.one .bool]) (Same_ok R1 R5 true hX) ?_
    rintro _ w3 ⟨r, rfl, hr, F3⟩
    have hr1 : r = true := hr.2 ⟨rfl, fun i x y hx hy => by rw [hx] at hy; cases hy; exact ⟨rfl, rfl, fun _ => rfl⟩⟩
    subst hr1
    refine ⟨((true, ()), ()), rfl, ?_⟩
    have B4' := B4.fr (F2.tr F3) (fun h => h)
    have B8' := B8.fr F3 (fun h => h)
    refine ite_yes (y := k false) rfl (B4'.ld (c := .int .i64) (x := e) (o := 0) rfl (B4'.ld (c := .int .i64) (x := a) (o := 1) rfl (B8'.ld (c := .int .i64) (x := e) (o := 0) rfl (B8'.ld (c := .int .i64) (x := a) (o := 1) rfl (eqF_ok rfl rfl (ite_yes rfl ?_))))))
    exact callB_ok (awake_ok (hg.fr (F12.tr F3))) fun w4 F4 => hk _ _ ⟨rfl, (F12.tr F3).tr F4⟩
  cases hq : scan (bl s) with
  | error f =>
    rw [hq] at H1 H2
    obtain ⟨B4, rfl⟩ := H1
    obtain ⟨B8, rfl⟩ := H2
    exact key (X := []) (by simp) ⟨rfl, fun k x hx => by simp at hx⟩ ⟨rfl, fun k x hx => by simp at hx⟩ B4 B8
  | ok l =>
    rw [hq] at H1 H2
    obtain ⟨B4, h1⟩ := H1
    obtain ⟨B8, h5⟩ := H2
    have := scan_len hq
    exact key (X := l.map utok) (by rw [List.length_map]; omega) (RdT_own (own_fr0 h1 F2)) (RdT_own h5) B4 B8
end Go.Proofs.YthnfcbjfmghomaaGreatDoor
