/- Awake. No condition. -/
import Derived.Test.YthnfcbjfmghomaaGreatDoorLexN
import Derived.Test.YthnfcbjfmghomaaGreatDoorTreeB
namespace Go.Lex
def toks1 : List Tok := [⟨5, [108, 101, 116], 0⟩, ⟨1, [120], 4⟩, ⟨6, [61], 5⟩, ⟨3, [49], 6⟩, ⟨0, [], 12⟩]
theorem scan1 : scan [108, 101, 116, 32, 120, 61, 49, 32, 45, 45, 32, 97] = .ok toks1 := by kernel_rfl
theorem scan2 : scan [49, 46, 50] = .error ⟨60, 0⟩ := by kernel_rfl
theorem show3 : showF [] [(4, [97, 34, 98])] = some [[34, 97, 92, 34, 98, 34]] := by kernel_rfl
end Go.Lex
namespace Go.Lift
def cells3 (x : Int × ByteArray × Int) : List Value := [.int .i64 x.1, .string x.2.1, .int .i64 x.2.2]
theorem RdT.of_cells {w : World} {g : Nat} {X : List (Int × ByteArray × Int)} {s : Sl} (hn : s.n = X.length) (ha : s.a = some ⟨g, 0, none⟩) (hc : ∀ j v, (X.flatMap cells3)[j]? = some v → w.cell? ⟨g, j, none⟩ = some v) : RdT w s X := by
  refine ⟨hn, fun k x hx => ⟨g, 0, ha, ?_, ?_, ?_⟩⟩
  · exact hc _ _ (by have := flat_at cells3 3 (l := X) (fun _ _ => rfl) hx 0 (by omega); rw [Nat.add_zero] at this; rw [Nat.zero_add, this]; rfl)
  · exact hc _ _ (by have := flat_at cells3 3 (l := X) (fun _ _ => rfl) hx 1 (by omega); rw [Nat.zero_add, this]; rfl)
  · exact hc _ _ (by have := flat_at cells3 3 (l := X) (fun _ _ => rfl) hx 2 (by omega); rw [Nat.zero_add, this]; rfl)
theorem RdT.of_blk {w : World} {m : Nat} {t : TypeId} {X : List (Int × ByteArray × Int)} (B : Blk w m t (X.flatMap cells3)) (c : Nat) : RdT w ⟨some ⟨m, 0, none⟩, X.length, c⟩ X := RdT.of_cells rfl rfl fun _ _ hj => B.cell hj
end Go.Lift
namespace Go.Proofs.YthnfcbjfmghomaaGreatDoor
open Go.Lift Go.Lex
def utok (t : Tok) : Int × ByteArray × Int := ((t.kind : Int), bs t.text, (t.at' : Int))
def want1 : List (Int × ByteArray × Int) := [(5, bs [108, 101, 116], 0), (1, bs [120], 4), (6, bs [61], 5), (3, bs [49], 6), (0, bs [], 12)]
theorem want_eq : toks1.map utok = want1 := rfl
theorem RdT_own {w : World} {base : Nat} {l : Sl} {toks : List Tok} (h : w.ownsRow base 32 3 (.slice l.a l.n l.c) toks.length (toks.flatMap tokCells)) : RdT w l (toks.map utok) := by
  have e : (toks.map utok).flatMap cells3 = toks.flatMap tokCells := by rw [List.flatMap_map]; rfl
  rcases h.2 with ⟨hv, h0⟩ | ⟨g, cap, cur, hv, _⟩
  · have : toks = [] := List.eq_nil_of_length_eq_zero h0
    subst this
    simp only [Value.slice.injEq] at hv
    exact ⟨hv.2.1, fun k x hx => by simp at hx⟩
  · have hc := h.cells (g := g) (by rw [hv]; rfl)
    simp only [Value.slice.injEq] at hv
    refine RdT.of_cells (by rw [List.length_map]; exact hv.2.1) hv.1 fun j v hj => ?_
    rw [e] at hj
    have := hc j v hj
    rw [Addr.add_lit, Nat.zero_add] at this
    exact this
section
variable {w : World}
set_option maxHeartbeats 2000000 in
theorem awake_ok (hg : Glob w) : AnsB 18 #[] w true := by
  apply c18
  unfold t18
  have S1 := Scan_ok (bs [108, 101, 116, 32, 120, 61, 49, 32, 45, 45, 32, 97]) hg
  unfold ScanP at S1
  rw [bl_bs, scan1] at S1
  refine callLF_ok (x := 0) (y := 0) (Y := fun l w' => w'.ownsRow w.heap.size 32 3 (.slice l.a l.n l.c) toks1.length (toks1.flatMap tokCells) ∧ Fr noB w w') (S1.mono fun en w' ⟨⟨l, h1, h2⟩, h3⟩ => ⟨l, h1, h2, h3⟩) fun l0 w1 ⟨hl0, F1⟩ => new_ok fun w2 m3 hm3 hs2 B2 F2 => ?_
  refine B2.st (o := 0) rfl (by simp) fun w3 B3 F3 => B3.st (o := 1) rfl (by simp) fun w4 B4 F4 => ?_
  have F14 : Fr noB w1 w4 := F2.then (F3.sq F4) fun y hy h => by unfold oneB at h; omega
  have S2 := Scan_ok (bs [49, 46, 50]) (hg.fr (F1.tr F14))
  unfold ScanP at S2
  rw [bl_bs, scan2] at S2
  refine callLF_ok (x := 60) (y := 0) (Y := fun _ w' => Fr noB w4 w') (S2.mono fun en w' h => ⟨⟨none, 0, 0⟩, h.1, h.2⟩) fun l4 w5 F5 => new_ok fun w6 m7 hm7 hs6 B6 F6 => ?_
  refine B6.st (o := 0) rfl (by simp) fun w7 B7 F7 => B7.st (o := 1) rfl (by simp) fun w8 B8 F8 => new_ok fun w9 m8 hm8 hs9 B9 F9 => ?_
  have F58 : Fr noB w5 w8 := F6.then (F7.sq F8) fun y hy h => by unfold oneB at h; omega
  have F19 := ((F14.tr F5).tr F58).tr F9
  have R9 : RdT w9 ⟨some ⟨m8, 0, none⟩, 1, 1⟩ [(4, bs [97, 34, 98], 0)] := RdT.of_blk (X := [(4, bs [97, 34, 98], 0)]) B9 1
  have SH := Show_ok R9 (hg.fr (F1.tr F19)) (fun x hx => by rw [List.mem_singleton.1 hx]; decide) (by simp)
  rw [List.map_cons, List.map_nil] at SH
  simp only [bl_bs] at SH
  rw [show3] at SH
  refine callSI_ok (s := bs [34, 97, 92, 34, 98, 34]) (n := 0) SH fun w10 F10 => new_ok fun w11 m11 hm11 hs11 B11 F11 => ?_
  have F111 := (F19.tr F10).tr F11
  have R11 : RdT w11 ⟨some ⟨m11, 0, none⟩, 5, 5⟩ want1 := RdT.of_blk (X := want1) B11 5
  have R0 := RdT_own (own_fr0 hl0 F111)
  have B3f : Blk w11 m3 27 [.int .i64 0, .int .i64 0] := B4.fr ((((F5.tr F58).tr F9).tr F10).tr F11) (fun h => h)
  have B7f : Blk w11 m7 27 [.int .i64 60, .int .i64 0] := B8.fr ((F9.tr F10).tr F11) (fun h => h)
  refine join1_ok (c := .bool) (fun (b : Bool) w' => b = true ∧ Fr noB w w') (fun k hk => ?_) (fun b w' h => done_b h)
  refine B3f.ld (c := .int .i64) (x := 0) (o := 0) rfl (B3f.ld (c := .int .i64) (x := 0) (o := 1) rfl ⟨(true, ()), w11, by kernel_rfl, ?_⟩)
  have Fall := F1.tr F111
  refine call_ok (Same_ok R0 R11 true (show 5 ≤ 1000000000 by omega)) ?_
  rintro _ w12 ⟨r, rfl, hr, F12⟩
  rw [want_eq] at hr
  have hr1 : r = true := hr.2 ⟨rfl, fun i x y hx hy => by rw [hx] at hy; cases hy; exact ⟨rfl, rfl, fun _ => rfl⟩⟩
  · subst hr1
    refine ⟨((true, ()), ()), rfl, ?_⟩
    have B7g := B7f.fr F12 (fun h => h)
    refine B7g.ld (c := .int .i64) (x := 60) (o := 0) rfl (B7g.ld (c := .int .i64) (x := 0) (o := 1) rfl ⟨(true, ()), w12, by kernel_rfl, ?_⟩)
    refine ite_yes ?_ (hk _ _ ⟨rfl, Fall.tr F12⟩)
    rw [eq_bl, bl_bs]
    rfl
end
end Go.Proofs.YthnfcbjfmghomaaGreatDoor
