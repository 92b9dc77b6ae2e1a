/- The law behind: one part of its proof (joined by program out of my own texts). No condition. -/
import Derived.Test.YtngfnokbdcjoeaaGreatDoorVatAZ
import Derived.JoinedOf
import Derived.KernelRfl
import Derived.WalkKit
import Derived.ProofKit
import Derived.OpenShut
import Derived.JoinedCond
import Derived.ReadAgain
import Derived.ChangeStays
import Derived.Deep.SlicePairs
import Derived.Deep.Grids
import Derived.Lib.SmallJoins
import Derived.Test.YtngfnokbdcjoeaaGreatDoorRows
section
namespace Go.Shp
open Go.Lex
def oneS : Shape := .mk (vk 1 (-1)) [] [] [] []
def listS : Shape := .mk (vk 4 0) [] [] [] [.mk (vk 3 1) [] [] [] []]
def bothS : Shape := .mk (vk 5 0) [] [] [[98], [97]] [oneS, listS]
theorem itoa_m1 : Lib.itoa (-1) = [45, 49] := by
 unfold Lib.itoa
 rw [if_pos (by decide), show (-1 : Int).natAbs = 1 from rfl, dec_small (by decide)]
 rfl
theorem text_m1 : vtext oneS = [45, 49] := by
 unfold oneS
 rw [text1 (by decide), show zOf (vk 1 (-1)) = -1 by decide, itoa_m1]
theorem text_list : vtext listS = [91, 116, 114, 117, 101, 93] := by
 unfold listS
 rw [text4 (by decide), List.map_cons, text3 (by decide), show zOf (vk 3 1) = 1 by decide]
 rfl
theorem text_both : vtext bothS = [123, 98, 32, 61, 32, 45, 49, 44, 32, 97, 32, 61, 32, 91, 116, 114, 117, 101, 93, 125] := by
 unfold bothS
 rw [text5 (by decide)]
 simp only [List.zip_cons_cons, List.zip_nil_right, List.map_cons, List.map_nil, ftext, text_m1, text_list]
 rfl
def turnS : Shape := .mk (vk 5 0) [] [] [[97], [98]] [listS, oneS]
theorem text_turn : vtext turnS = [123, 97, 32, 61, 32, 91, 116, 114, 117, 101, 93, 44, 32, 98, 32, 61, 32, 45, 49, 125] := by
 unfold turnS
 rw [text5 (by decide)]
 simp only [List.zip_cons_cons, List.zip_nil_right, List.map_cons, List.map_nil, ftext, text_m1, text_list]
 rfl
theorem sort_both : sortS bothS = turnS := by kernel_rfl
theorem check_both : vcheck bothS = 0 := by kernel_rfl
theorem check_turn : vcheck turnS = 0 := by kernel_rfl
theorem check_one : vcheck oneS = 0 := by kernel_rfl
theorem check_zero : vcheck (.mk (vk 0 0) [] [] [] []) = 290 := by kernel_rfl
theorem quot_both : vquot bothS = true := by kernel_rfl
theorem quot_turn : vquot turnS = true := by kernel_rfl
theorem size_both : size bothS = 4 := by kernel_rfl
theorem same_both : vsame bothS turnS = true := by kernel_rfl
theorem fits_int : isFits oneS (.mk 1 [] [] [] []) = true := by kernel_rfl
theorem fits_text : isFits oneS (.mk 3 [] [] [] []) = false := by kernel_rfl
theorem show_both : vshow bothS = (0, vtext bothS) := by
 unfold vshow
 rw [check_both, quot_both]
 rfl
theorem show_turn : vshow turnS = (0, vtext turnS) := by
 unfold vshow
 rw [check_turn, quot_turn]
 rfl
theorem vtP_one {P : B → Prop} : vtP P oneS := by
 unfold oneS
 rw [vtP]
 exact ⟨fun h => absurd h (by decide), by rw [vtPs]; trivial⟩
theorem vtP_list {P : B → Prop} : vtP P listS := by
 unfold listS
 rw [vtP]
 refine ⟨fun h => absurd h (by decide), ?_⟩
 rw [vtPs, vtP, vtPs]
 exact ⟨⟨fun h => absurd h (by decide), trivial⟩, trivial⟩
theorem vtP_both {P : B → Prop} : vtP P bothS := by
 unfold bothS
 rw [vtP]
 refine ⟨fun h => absurd h (by decide), ?_⟩
 rw [vtPs, vtPs, vtPs]
 exact ⟨vtP_one, vtP_list, trivial⟩
theorem vtP_turn {P : B → Prop} : vtP P turnS := by
 unfold turnS
 rw [vtP]
 refine ⟨fun h => absurd h (by decide), ?_⟩
 rw [vtPs, vtPs, vtPs]
 exact ⟨vtP_list, vtP_one, trivial⟩
end Go.Shp
namespace Go.Tms
open Go.Lex Go.Shp
def subS : Tm := .mk 7 [] [] 0 [] [] [] [.mk 5 [] [115, 117, 98] 0 [] [] [] [] 0, .mk 1 [] [] 0 [] [] [] [] 0, .mk 1 [] [] 1 [] [] [] [] 0] 0
theorem check_sub : tcheck subS = 0 := by kernel_rfl
theorem tmP_sub {P : Tm → Prop} (h : ∀ s : Tm, s.kind ≠ 2 → P s) : tmP P subS := by
 unfold subS
 rw [tmP]
 refine ⟨h _ (by decide), ?_⟩
 rw [tmPs, tmPs, tmPs, tmPs, tmP, tmP, tmP, tmPs]
 exact ⟨⟨h _ (by decide), trivial⟩, ⟨h _ (by decide), trivial⟩, ⟨h _ (by decide), trivial⟩, trivial⟩
end Go.Tms
namespace Go.Proofs.YtngfnokbdcjoeaaGreatDoor
open Go.Lift Go.Lex Go.Shp Go.Tms
theorem vnum_ofV : ∀ (d : Nat) (s : Shape), size s ≤ d → ∀ {w : World} {k z : Int} {o n : ByteArray} {ns ps : Sl}, VaV w k z o n ns ps s → vnum s
 | 0, s, h, _, _, _, _, _, _, _, _ => by have := size_pos s; omega
 | d + 1, .mk q o' n' names parts, hd, w, k, z, o, n, ns, ps, hv => by
  rw [size_mk] at hd
  obtain ⟨ek, _, _, ⟨hz, _⟩, hps⟩ := hv.parts
  change q = vk k z at ek
  change VaL w ps.a 0 parts at hps
  rw [vnum]
  refine ⟨by rw [ek, zOf_vk hz.1 hz.2]; exact hz, vnums_of fun s hs => ?_⟩
  obtain ⟨i, hi⟩ := List.mem_iff_getElem?.1 hs
  obtain ⟨_, _, k1, z1, o1, n1, ns1, ps1, _, _, _, _, _, _, _, hv1⟩ := hps.at hi
  exact vnum_ofV d s (by have := size_mem hs; omega) hv1
theorem PShow_ok {w : World} {s : Shape} {k z : Int} {o n : ByteArray} {ns ps : Sl} (hg : GlobV w) (hv : VaV w k z o n ns ps s) (hq : vtP QuotC s) :
  Calls Tryz.prog 22 #[vaArg k z o n ns ps] w fun e w' => e = .returned (.tuple #[.string (bs (vshow s).2), .int .i64 (((vshow s).1 : Nat) : Int)]) ∧ Fr noB w w' := by
 apply c22
 unfold t22 ld6mZ vaZ nw6Z caBZ caIZ caSZ
 refine new_ok fun w1 m6 hm6 hs1 B1 F1 => ?_
 change Blk w1 m6 _ (vaCells k z o n ns ps) at B1
 refine B1.ldW (callI_ok (PCheck_ok (hv.fr F1)) fun w2 F2 => ?_)
 have F12 := F1.tr F2
 have B2 := B1.fr F2 (fun h => h)
 unfold vshow
 refine ite_ok (fun h => ⟨?_, F12⟩) fun h => ?_
 ·have h : ¬ vcheck s = 0 := fun h0 => by rw [h0] at h; cases h
  rw [if_pos h]
  rfl
 have h : vcheck s = 0 := by have := (by simpa using h : ((vcheck s : Nat) : Int) = 0); omega
 rw [if_neg (by rw [h]; simp)]
 obtain ⟨hs1, _, hs3⟩ := vcheck_ok.1 h
 refine B2.ldW (callB_ok (quotable_ok _ s (Nat.le_refl _) hq (hg.toGlob.fr F12) (hv.fr F12)) fun w3 F3 => ?_)
 have B3 := B2.fr F3 (fun h => h)
 have F13 := F12.tr F3
 refine ite_ok (fun hb => ⟨?_, F13⟩) fun hb => ?_
 ·have hb : vquot s = false := by simpa using hb
  rw [hb]
  rfl
 have hb : vquot s = true := by simpa using hb
 rw [hb]
 refine B3.ldW (callS_ok (vshown_ok _ s (Nat.le_refl _) hs1 hs3 hb hq (hg.frV F13) (hv.fr F13) (vnum_ofV _ s (Nat.le_refl _) hv)) fun w4 F4 => ⟨rfl, F13.tr F4⟩)
theorem rds_nil (w : World) : RdS w ⟨none, 0, 0⟩ [] := ⟨rfl, fun k x h => by simp at h⟩
theorem tmLeaf (w : World) {k z a : Int} {n : ByteArray} (hn : n.size < 4611686018427387904) : TmV w k ⟨#[]⟩ n z ⟨none, 0, 0⟩ ⟨none, 0, 0⟩ ⟨none, 0, 0⟩ ⟨none, 0, 0⟩ a (.mk k [] (bl n) z [] [] [] [] a) := by
 rw [TmV, ShL, TmL]
 exact ⟨rfl, rfl, rfl, rfl, rfl, ⟨rds_nil w, rds_nil w, by decide, by decide, rfl, by decide, rfl, by decide, by decide, hn, by simp, by simp⟩, trivial, trivial⟩
set_option maxHeartbeats 2000000 in
theorem madeOne_ok {w : World} : Calls Tryz.prog 46 #[vaArg 1 (-1) ⟨#[]⟩ ⟨#[]⟩ ⟨none, 0, 0⟩ ⟨none, 0, 0⟩] w fun e w' => ∃ g, e = .returned (.tuple #[tmArg 7 ⟨#[]⟩ ⟨#[]⟩ 0 ⟨none, 0, 0⟩ ⟨none, 0, 0⟩ ⟨none, 0, 0⟩ ⟨some ⟨g, 0, none⟩, 3, 3⟩ 0, .bool true]) ∧
  TmV w' 7 ⟨#[]⟩ ⟨#[]⟩ 0 ⟨none, 0, 0⟩ ⟨none, 0, 0⟩ ⟨none, 0, 0⟩ ⟨some ⟨g, 0, none⟩, 3, 3⟩ 0 subS ∧ Fr noB w w' := by
 apply c46
 unfold t46 wrZ ivZ tvZ svZ ldIZ ldSZ ldLZ ld6mZ ld6xZ vaZ st6Z nw6Z nz6Z nwZ nw5Z caIZ caLZ caZ jn0Z jnBZ lpIZ ixZ
 refine new_ok fun w1 m6 hm6 hs1 B1 F1 => new_ok fun w2 m7 hm7 hs2 C2 F2 => new_ok fun w3 m8 hm8 hs3 D3 F3 => fill9_ok D3 rfl rfl rfl rfl rfl rfl rfl rfl rfl rfl fun w4 D4 F4 => ?_
 have F24 : Fr noB w1 w4 := (F2.tr F3).fill (by omega) F4
 have F34 : Fr noB w2 w4 := F3.fill (by omega) F4
 have F14 := F1.tr F24
 have B4 : Blk w4 m6 _ (vaCells 1 (-1) ⟨#[]⟩ ⟨#[]⟩ ⟨none, 0, 0⟩ ⟨none, 0, 0⟩) := B1.fr F24 (fun h => h)
 have C4 := C2.fr F34 (fun h => h)
 refine B4.ldS (o := 5) rfl ?_
 refine join0_ok (fun w' => w4 = w') (fun kend hkend => ?_) ?_
 ·exact countL_ok 0 (by omega) (fun _ w' => w4 = w') (fun rec i w' hi hI hrec => ite_ok (fun h => absurd (show ((i : Nat) : Int) < (0 : Int) from of_decide_eq_true h) (by omega)) fun _ => hkend _ hI) rfl
 rintro w' rfl
 refine B4.ld (c := .int .i64) (x := 1) (o := 0) rfl (join_in (vs := []) (join_in (vs := []) (ite_yes rfl ?_)))
 refine join1_ok (c := .bool) (fun (b : Bool) w' => b = false ∧ w4 = w') (fun kj hkj => ?_) ?_
 ·exact B4.ld (c := .int .i64) (x := -1) (o := 1) rfl (ite_no (by decide) (B4.ld (c := .int .i64) (x := -1) (o := 1) rfl (hkj _ _ ⟨by decide, rfl⟩)))
 rintro b w' ⟨rfl, rfl⟩
 refine ite_no rfl (B4.ld (c := .int .i64) (x := -1) (o := 1) rfl (ite_yes (by decide) (B4.ld (c := .int .i64) (x := -1) (o := 1) rfl ?_)))
 refine new_ok fun w5 m96 hm96 hs5 E5 F5 => ?_
 refine fill9_ok (C4.fr F5 (fun h => h)) rfl rfl rfl rfl rfl rfl rfl rfl rfl rfl fun w6 C6 F6 => ?_
 have E6 : Blk w6 m96 47 _ := E5.fr F6 (by have := C4.lt; unfold oneB; omega)
 change Blk w6 m7 _ (tmCells 7 ⟨#[]⟩ ⟨#[]⟩ 0 ⟨none, 0, 0⟩ ⟨none, 0, 0⟩ ⟨none, 0, 0⟩ ⟨some ⟨m96, 0, none⟩, 3, 3⟩ 0) at C6
 refine C6.ld_tm ⟨m96, rfl, ?_, (F14.tr F5).then F6 fun y hy h => by unfold oneB at h; have := F1.size; omega⟩
 unfold subS
 rw [TmV, ShL]
 refine ⟨rfl, rfl, rfl, rfl, rfl, ⟨rds_nil _, rds_nil _, by decide, by decide, rfl, by decide, rfl, by decide, by decide, by decide, by simp, by simp⟩, trivial, ?_⟩
 rw [TmL, TmL, TmL, TmL]
 refine ⟨⟨m96, 0, 5, ⟨#[]⟩, ⟨#[115, 117, 98]⟩, 0, ⟨none, 0, 0⟩, ⟨none, 0, 0⟩, ⟨none, 0, 0⟩, ⟨none, 0, 0⟩, 0, rfl, E6.cell rfl, E6.cell rfl, E6.cell rfl, E6.cell rfl, E6.cell rfl, E6.cell rfl, E6.cell rfl, E6.cell rfl, E6.cell rfl, tmLeaf _ (by decide)⟩,
  ⟨m96, 0, 1, ⟨#[]⟩, ⟨#[]⟩, 0, ⟨none, 0, 0⟩, ⟨none, 0, 0⟩, ⟨none, 0, 0⟩, ⟨none, 0, 0⟩, 0, rfl, E6.cell rfl, E6.cell rfl, E6.cell rfl, E6.cell rfl, E6.cell rfl, E6.cell rfl, E6.cell rfl, E6.cell rfl, E6.cell rfl, tmLeaf _ (by decide)⟩,
  ⟨m96, 0, 1, ⟨#[]⟩, ⟨#[]⟩, 1, ⟨none, 0, 0⟩, ⟨none, 0, 0⟩, ⟨none, 0, 0⟩, ⟨none, 0, 0⟩, 0, rfl, E6.cell rfl, E6.cell rfl, E6.cell rfl, E6.cell rfl, E6.cell rfl, E6.cell rfl, E6.cell rfl, E6.cell rfl, E6.cell rfl, tmLeaf _ (by decide)⟩, trivial⟩
end Go.Proofs.YtngfnokbdcjoeaaGreatDoor
end
section
namespace Go.Proofs.YtngfnokbdcjoeaaGreatDoor
open Go.Lift Go.Lex Go.Shp Go.Tms
theorem callTB_ok {R : Ending → World → Prop} {w : World} {f : FuncId} {args : Array Value} {Y : Nat → World → Prop} (hc : Calls Tryz.prog f args w fun e w' => ∃ g, e = .returned (.tuple #[tmArg 7 ⟨#[]⟩ ⟨#[]⟩ 0 ⟨none, 0, 0⟩ ⟨none, 0, 0⟩ ⟨none, 0, 0⟩ ⟨some ⟨g, 0, none⟩, 3, 3⟩ 0, .bool true]) ∧ Y g w')
  {K : Int → ByteArray → ByteArray → Int → Sl → Sl → Sl → Sl → Int → Bool → G} (h : ∀ g w', Y g w' → K 7 ⟨#[]⟩ ⟨#[]⟩ 0 ⟨none, 0, 0⟩ ⟨none, 0, 0⟩ ⟨none, 0, 0⟩ ⟨some ⟨g, 0, none⟩, 3, 3⟩ 0 true R w') :
  callG Tryz.prog f args [.agg [.int .i64, .str, .str, .int .i64, .slice, .slice, .slice, .slice, .int .i64], .one .bool] K R w :=
 call_ok hc fun _ w' ⟨g, he, hy⟩ => ⟨((7, ⟨#[]⟩, ⟨#[]⟩, 0, ⟨none, 0, 0⟩, ⟨none, 0, 0⟩, ⟨none, 0, 0⟩, ⟨some ⟨g, 0, none⟩, 3, 3⟩, 0, ()), (true, ()), ()), he, h g w' hy⟩
theorem callTI_ok {R : Ending → World → Prop} {w : World} {f : FuncId} {args : Array Value} {Y : Nat → World → Prop} (hc : Calls Tryz.prog f args w fun e w' => ∃ g, e = .returned (.tuple #[tmArg 7 ⟨#[]⟩ ⟨#[]⟩ 0 ⟨none, 0, 0⟩ ⟨none, 0, 0⟩ ⟨none, 0, 0⟩ ⟨some ⟨g, 0, none⟩, 3, 3⟩ 0, .int .i64 0]) ∧ Y g w')
  {K : Int → ByteArray → ByteArray → Int → Sl → Sl → Sl → Sl → Int → Int → G} (h : ∀ g w', Y g w' → K 7 ⟨#[]⟩ ⟨#[]⟩ 0 ⟨none, 0, 0⟩ ⟨none, 0, 0⟩ ⟨none, 0, 0⟩ ⟨some ⟨g, 0, none⟩, 3, 3⟩ 0 0 R w') :
  callG Tryz.prog f args [.agg [.int .i64, .str, .str, .int .i64, .slice, .slice, .slice, .slice, .int .i64], .one (.int .i64)] K R w :=
 call_ok hc fun _ w' ⟨g, he, hy⟩ => ⟨((7, ⟨#[]⟩, ⟨#[]⟩, 0, ⟨none, 0, 0⟩, ⟨none, 0, 0⟩, ⟨none, 0, 0⟩, ⟨some ⟨g, 0, none⟩, 3, 3⟩, 0, ()), (0, ()), ()), he, h g w' hy⟩
theorem vaLeaf (w : World) {k z : Int} (hz : okN z) : VaV w k z ⟨#[]⟩ ⟨#[]⟩ ⟨none, 0, 0⟩ ⟨none, 0, 0⟩ (.mk (vk k z) [] [] [] []) := by
 rw [VaV, VaL]
 exact ⟨rfl, rfl, rfl, ⟨hz, rds_nil w, by decide, rfl, by decide, by decide, by decide, by simp⟩, trivial⟩
theorem shLeaf (w : World) {k : Int} : ShV w k ⟨#[]⟩ ⟨#[]⟩ ⟨none, 0, 0⟩ ⟨none, 0, 0⟩ (.mk k [] [] [] []) := by
 rw [ShV, ShL]
 exact ⟨rfl, rfl, rfl, ⟨rds_nil w, by decide, rfl, by decide, by decide, by decide, by simp⟩, trivial⟩
set_option maxHeartbeats 2000000 in
theorem termOne_ok {w : World} : Calls Tryz.prog 29 #[vaArg 1 (-1) ⟨#[]⟩ ⟨#[]⟩ ⟨none, 0, 0⟩ ⟨none, 0, 0⟩] w fun e w' => ∃ g, e = .returned (.tuple #[tmArg 7 ⟨#[]⟩ ⟨#[]⟩ 0 ⟨none, 0, 0⟩ ⟨none, 0, 0⟩ ⟨none, 0, 0⟩ ⟨some ⟨g, 0, none⟩, 3, 3⟩ 0, .int .i64 0]) ∧ Fr noB w w' := by
 apply c29
 unfold t29 ivZ tvZ svZ ldIZ ldSZ ldLZ ld6mZ vaZ nw6Z nwZ caIZ caZ jnIZ
 have hv : ∀ w, VaV w 1 (-1) ⟨#[]⟩ ⟨#[]⟩ ⟨none, 0, 0⟩ ⟨none, 0, 0⟩ oneS := fun w => vaLeaf w (by unfold okN; decide)
 refine new_ok fun w1 m6 hm6 hs1 B1 F1 => new_ok fun w2 m7 hm7 hs2 C2 F2 => ?_
 have B2 : Blk w2 m6 _ (vaCells 1 (-1) ⟨#[]⟩ ⟨#[]⟩ ⟨none, 0, 0⟩ ⟨none, 0, 0⟩) := B1.fr F2 (fun h => h)
 refine B2.ldW (callI_ok (PCheck_ok (hv w2)) fun w3 F3 => ?_)
 have B3 := B2.fr F3 (fun h => h)
 refine ite_no (by rw [check_one]; rfl) (B3.ldW (callTB_ok madeOne_ok fun g w4 ⟨hT, F4⟩ => ?_))
 refine new_ok fun w5 m40 hm40 hs5 D5 F5 => fill9_ok D5 rfl rfl rfl rfl rfl rfl rfl rfl rfl rfl fun w6 D6 F6 => ite_no rfl ?_
 change Blk w6 m40 _ (tmCells 7 ⟨#[]⟩ ⟨#[]⟩ 0 ⟨none, 0, 0⟩ ⟨none, 0, 0⟩ ⟨none, 0, 0⟩ ⟨some ⟨g, 0, none⟩, 3, 3⟩ 0) at D6
 have F46 : Fr noB w4 w6 := F5.fill (by omega) F6
 refine D6.ld_tm (callI_ok (tCheck_ok (tmP_sub fun s h1 h2 => absurd h2 h1) (hT.fr F46)) fun w7 F7 => ?_)
 refine ite_no (by rw [check_sub]; rfl) ?_
 have D7 := D6.fr F7 (fun h => h)
 refine D7.ld_tm ?_
 have F27 : Fr noB w2 w7 := ((F3.tr F4).tr F46).tr F7
 refine fill9_ok (C2.fr F27 (fun h => h)) rfl rfl rfl rfl rfl rfl rfl rfl rfl rfl fun w8 C8 F8 => ?_
 change Blk w8 m7 _ (tmCells 7 ⟨#[]⟩ ⟨#[]⟩ 0 ⟨none, 0, 0⟩ ⟨none, 0, 0⟩ ⟨none, 0, 0⟩ ⟨some ⟨g, 0, none⟩, 3, 3⟩ 0) at C8
 refine C8.ld_tm ⟨g, rfl, ((F1.tr F2).tr F27).then F8 fun y hy h => by unfold oneB at h; have := F1.size; omega⟩
theorem callShow_ok {R : Ending → World → Prop} {w : World} {f : FuncId} {args : Array Value} {Y : World → Prop} {r : B} {n : Int} (hc : Calls Tryz.prog f args w fun e w' => e = .returned (.tuple #[.string (bs r), .int .i64 n]) ∧ Y w') {K : ByteArray → Int → G} (h : ∀ w', Y w' → K (bs r) n R w') :
  callG Tryz.prog f args [.one .str, .one (.int .i64)] K R w :=
 call_ok hc fun _ w' ⟨he, hy⟩ => ⟨((bs r, ()), ((n, ()), ())), he, h w' hy⟩
theorem heldBox {w : World} {b : Nat} {t : TypeId} {l : List Value} (B : Blk w b t l) : ∀ w', Fr noB w w' → Held w' (⟨b, 0, none⟩, l) := fun _ F => (B.fr F (fun h => h)).held fun j v hj => by rw [Nat.zero_add]; exact hj
theorem heldFst {w : World} {b : Nat} {t : TypeId} {v : Value} {l : List Value} (B : Blk w b t (v :: l)) : ∀ w', Fr noB w w' → Held w' (⟨b, 0, none⟩, [v]) := fun _ F => (B.fr F (fun h => h)).held1 rfl
set_option maxHeartbeats 4000000 in
theorem awake_ok : AwakeC := by
 intro w hg
 apply c13
 unfold t13 ivZ tvZ svZ shZ ldIZ ld6mZ vaZ kf6Z st6Z nw6Z nz6Z ca6Z nwZ caBZ caIZ caZ jnBZ
 refine new_ok fun w1 m0 hm0 hs1 B1 F1 => fill6_ok B1 rfl rfl rfl rfl rfl rfl rfl fun w2 B2 F2 => ?_
 change Blk w2 m0 _ (vaCells 1 (-1) ⟨#[]⟩ ⟨#[]⟩ ⟨none, 0, 0⟩ ⟨none, 0, 0⟩) at B2
 have G2 : Fr noB w w2 := F1.fill (by omega) F2
 refine new_ok fun w3 m1 hm1 hs3 C3 F3 => (B2.fr F3 (fun h => h)).ldW (new_ok fun w4 m8 hm8 hs4 D4 F4 => new_ok fun w5 m9 hm9 hs5 E5 F5 => new_ok fun w6 m10 hm10 hs6 V6 F6 => ?_)
 refine V6.st (o := 0) rfl (by simp) fun w7 V7 F7 => V7.st (o := 1) rfl (by simp) fun w8 V8 F8 => V8.st (o := 2) rfl (by simp) fun w9 V9 F9 => V9.st (o := 3) rfl (by simp) fun w10 V10 F10 => V10.st (o := 4) rfl (by simp) fun w11 V11 F11 => V11.st (o := 5) rfl (by simp) fun w12 V F12 => ?_
 change Blk w12 m10 _ (vaCells 5 0 ⟨#[]⟩ ⟨#[]⟩ ⟨some ⟨m1, 0, none⟩, 2, 2⟩ ⟨some ⟨m9, 0, none⟩, 2, 2⟩) at V
 have H612 : Fr (oneB m10) w6 w12 := st_fr (st_fr (st_fr (st_fr (st_fr F7 F8) F9) F10) F11) F12
 have G512 : Fr noB w5 w12 := F6.fill (by omega) H612
 have G412 := F5.tr G512
 have G312 := F4.tr G412
 have G212 := F3.tr G312
 have G := G2.tr G212
 have B := B2.fr G212 (fun h => h)
 have C := C3.fr G312 (fun h => h)
 have D := D4.fr G412 (fun h => h)
 have E := E5.fr G512 (fun h => h)
 clear V6 V7 V8 V9 V10 V11 B1 B2 C3 D4 E5
 have hone : ∀ w', VaV w' 1 (-1) ⟨#[]⟩ ⟨#[]⟩ ⟨none, 0, 0⟩ ⟨none, 0, 0⟩ oneS := fun w' => vaLeaf w' (by unfold okN; decide)
 have hlist : VaV w12 4 0 ⟨#[]⟩ ⟨#[]⟩ ⟨none, 0, 0⟩ ⟨some ⟨m8, 0, none⟩, 1, 1⟩ listS := by
  unfold listS
  rw [VaV, VaL, VaL]
  exact ⟨rfl, rfl, rfl, ⟨by unfold okN; decide, rds_nil _, by decide, rfl, by decide, by decide, by decide, by simp⟩, ⟨m8, 0, 3, 1, ⟨#[]⟩, ⟨#[]⟩, ⟨none, 0, 0⟩, ⟨none, 0, 0⟩, rfl, D.cell rfl, D.cell rfl, D.cell rfl, D.cell rfl, D.cell rfl, D.cell rfl, vaLeaf _ (by unfold okN; decide)⟩, trivial⟩
 have hboth : VaV w12 5 0 ⟨#[]⟩ ⟨#[]⟩ ⟨some ⟨m1, 0, none⟩, 2, 2⟩ ⟨some ⟨m9, 0, none⟩, 2, 2⟩ bothS := by
  unfold bothS
  rw [VaV, VaL, VaL, VaL]
  exact ⟨rfl, rfl, rfl, ⟨by unfold okN; decide, RdS.of_blk (l := [bs [98], bs [97]]) C 2, by decide, rfl, by decide, by decide, by decide, by decide⟩, ⟨m9, 0, 1, -1, ⟨#[]⟩, ⟨#[]⟩, ⟨none, 0, 0⟩, ⟨none, 0, 0⟩, rfl, E.cell rfl, E.cell rfl, E.cell rfl, E.cell rfl, E.cell rfl, E.cell rfl, hone _⟩,
   ⟨m9, 0, 4, 0, ⟨#[]⟩, ⟨#[]⟩, ⟨none, 0, 0⟩, ⟨some ⟨m8, 0, none⟩, 1, 1⟩, rfl, E.cell rfl, E.cell rfl, E.cell rfl, E.cell rfl, E.cell rfl, E.cell rfl, hlist⟩, trivial⟩
 have hgG := hg.frV G
 have stV := heldBox V
 have stB := heldBox B
 refine V.ldW (callShow_ok (PShow_ok hgG hboth vtP_both) fun w13 F13 => ?_)
 rw [show_both]
 have V13 := V.fr F13 (fun h => h)
 refine V13.ldW (callR_ok (PSort_ok (hboth.fr F13)) fun k3 z3 o3 n3 ns3 ps3 w14 F14 hv14 => ?_)
 rw [if_pos check_both, sort_both] at hv14
 have J14 := F13.tr F14
 refine callShow_ok (PShow_ok (hgG.frV J14) hv14 vtP_turn) fun w15 F15 => ?_
 rw [show_turn]
 have J15 := J14.tr F15
 refine (B.fr J15 (fun h => h)).ldW (callTI_ok termOne_ok fun g w16 F16 => ?_)
 have J16 := J15.tr F16
 refine new_ok fun w17 m49 hm49 hs17 T17 F17 => fill9_ok T17 rfl rfl rfl rfl rfl rfl rfl rfl rfl rfl fun w18 T18 F18 => ?_
 have F1618 : Fr noB w16 w18 := F17.fill (by omega) F18
 have J18 := J16.tr F1618
 refine join1_ok (c := .bool) (fun (b : Bool) w' => b = true ∧ Fr noB w w') (fun kj hkj => drew_ok fun w19 F19 _ => ?_) (fun b w' ⟨hb, F⟩ => ⟨by rw [hb], F⟩)
 have J19 := J18.tr F19
 have T19 := T18.fr F19 (fun h => h)
 have V19 := V.fr J19 (fun h => h)
 refine ite_yes (by rw [eq_bl, bl_bs, text_both]; rfl) (ite_yes rfl (ite_yes (by rw [eq_bl, bl_bs, text_turn]; rfl) (ite_yes rfl ?_)))
 have fV := heldBox V19
 have fB := heldBox (B.fr J19 (fun h => h))
 have fT := heldFst T19
 refine V19.ldW (callI_ok (PSize_ok (hboth.fr J19)) fun w20 F20 => ?_)
 rw [size_both]
 refine ite_yes (by decide) ?_
 have V20 := V19.fr F20 (fun h => h)
 refine V20.ldW (V20.ldW (callR_ok (PSort_ok (hboth.fr (J19.tr F20))) fun k4 z4 o4 n4 ns4 ps4 w21 F21 hv21 => ?_))
 rw [if_pos check_both, sort_both] at hv21
 have L21 := F20.tr F21
 refine Stay.go (w := w19) (by repeat (first | exact Stay.nil | refine Stay.cons (by assumption) ?_)) L21 ?_
 refine callB_ok (PSame_ok ((hboth.fr J19).fr L21) hv21) fun w22 F22 => ?_
 rw [same_both]
 have L22 := L21.tr F22
 refine Stay.go (w := w19) (by repeat (first | exact Stay.nil | refine Stay.cons (by assumption) ?_)) L22 (ite_yes rfl ?_)
 refine (B.fr (J19.tr L22) (fun h => h)).ldW (callB_ok (PFits_ok (hone _) (shLeaf _)) fun w23 F23 => ?_)
 rw [fits_int]
 have L23 := L22.tr F23
 refine Stay.go (w := w19) (by repeat (first | exact Stay.nil | refine Stay.cons (by assumption) ?_)) L23 (ite_yes rfl ?_)
 refine (B.fr (J19.tr L23) (fun h => h)).ldW (callB_ok (PFits_ok (hone _) (shLeaf _)) fun w24 F24 => ?_)
 rw [fits_text]
 have L24 := L23.tr F24
 refine Stay.go (w := w19) (by repeat (first | exact Stay.nil | refine Stay.cons (by assumption) ?_)) L24 (ite_yes rfl ?_)
 refine (T19.fr L24 (fun h => h)).ld (c := .int .i64) (x := 7) (o := 0) rfl (ite_yes rfl (ite_yes rfl ?_))
 refine callI_ok (PCheck_ok (vaLeaf w24 (k := 0) (z := 0) (by unfold okN; decide))) fun w25 F25 => ?_
 rw [check_zero]
 have L25 := L24.tr F25
 exact Stay.go (w := w19) (by repeat (first | exact Stay.nil | refine Stay.cons (by assumption) ?_)) L25 (hkj _ _ ⟨rfl, (G.tr J19).tr L25⟩)
end Go.Proofs.YtngfnokbdcjoeaaGreatDoor
end
section
namespace Go.Shp
theorem vshow_bad {s : Shape} (h : (vshow s).1 ≠ 0) : (vshow s).2 = [] := by
 unfold vshow at h ⊢
 split
 ·rfl
 ·rename_i hc
  rw [if_neg hc] at h
  split
  ·rename_i hq
   rw [if_pos hq] at h
   exact absurd rfl h
  ·rfl
end Go.Shp
namespace Go.Proofs.YtngfnokbdcjoeaaGreatDoor
open Go.Lift Go.Lex Go.Shp
theorem quotC_of {t : B} (h : T47 t) : QuotC t := by
 intro w x hg ex
 have hx : x.size ≤ 140737488351232 := by
  rw [← bl_length, ex]
  exact h
 apply c62
 unfold t62 ivZ tvZ nwZ caZ
 refine new_ok fun w1 m1 hm1 hs1 B1 F1 => ?_
 have hR : RdT w1 ⟨some ⟨m1, 0, none⟩, 1, 1⟩ [(4, x, 0)] := ⟨rfl, fun k y hy => by
  match k, hy with
  | 0, hy =>
   simp only [List.getElem?_cons_zero, Option.some.injEq] at hy
   subst hy
   exact ⟨m1, 0, rfl, B1.cell rfl, B1.cell rfl, B1.cell rfl⟩
  | k + 1, hy => simp at hy⟩
 have hc := Show_ok hR (hg.fr F1) (fun y hy => by rw [List.mem_singleton.1 hy]; exact hx) (by simp)
 refine call_ok hc ?_
 rintro e w2 ⟨he, F2⟩
 have hsf : showF [] ([(4, x, 0)].map fun (x : Int × ByteArray × Int) => (x.1, bl x.2.1)) = (show1 4 t).map fun s => [s] := by
  simp only [List.map_cons, List.map_nil, ex]
  unfold showF
  rw [if_neg (by simp)]
  cases show1 4 t with
  | none => rfl
  | some s => rfl
 rw [hsf] at he
 cases hs : show1 4 t with
 | none =>
  rw [hs] at he
  obtain rfl := he
  exact ⟨((⟨#[]⟩, ()), ((60, ()), ())), rfl, ⟨#[]⟩, rfl, (fun q hq => by cases hq), F1.tr F2⟩
 | some s =>
  rw [hs] at he
  obtain rfl := he
  refine ⟨((_, ()), ((0, ()), ())), rfl, _, rfl, fun q hq => ?_, F1.tr F2⟩
  cases hq
  rw [bl_bs]
  show Lib.join [s] [32] = s
  rw [Lib.join_cons]
  simp [Lib.joinTail]
section
variable {w : World} {v v2 : Shape} {k z : Int} {o n : ByteArray} {ns ps : Sl} {k2 z2 : Int} {o2 n2 : ByteArray} {ns2 ps2 : Sl}
set_option maxHeartbeats 4000000 in
theorem ValueTexts_ok (hA : AwakeC) (hg : GlobV w) (hv : VaV w k z o n ns ps v) (ht : vtP T47 v) (hv2 : VaV w k2 z2 o2 n2 ns2 ps2 v2) (ht2 : vtP T47 v2) :
  AnsB 7 #[vaArg k z o n ns ps, vaArg k2 z2 o2 n2 ns2 ps2] w true := by
 have hq : ∀ {s : Shape}, vtP T47 s → vtP QuotC (if vcheck s = 0 then sortS s else s) := fun {s} h => by
  split
  ·exact vtP_sort _ s (Nat.le_refl _) (vtP_mono (Q := QuotC) (fun t h => @quotC_of t h) h)
  ·exact vtP_mono (Q := QuotC) (fun t h => @quotC_of t h) h
 apply c7
 unfold t7 ld6mZ vaZ nw6Z ca6Z caBZ caZ jnBZ
 refine new_ok fun w1 m12 hm12 hs1 B1 F1 => new_ok fun w2 m13 hm13 hs2 C2 F2 => ?_
 have B2 := B1.fr F2 (fun h => h)
 change Blk w2 m12 _ (vaCells k z o n ns ps) at B2
 change Blk w2 m13 _ (vaCells k2 z2 o2 n2 ns2 ps2) at C2
 clear B1
 have F12 := F1.tr F2
 refine B2.ldW (callR_ok (PSort_ok (hv.fr F12)) fun k3 z3 o3 n3 ns3 ps3 w3 F3 hv3 => ?_)
 have H3 := F12.tr F3
 refine callShow_ok (PShow_ok (hg.frV H3) hv3 (hq ht)) fun w4 F4 => ?_
 have G4 := F3.tr F4
 refine (C2.fr G4 (fun h => h)).ldW (callR_ok (PSort_ok (hv2.fr (F12.tr G4))) fun k4 z4 o4 n4 ns4 ps4 w5 F5 hv4 => ?_)
 have G5 := G4.tr F5
 refine callShow_ok (PShow_ok (hg.frV (F12.tr G5)) hv4 (hq ht2)) fun w6 F6 => ?_
 have G6 := G5.tr F6
 have H6 := F12.tr G6
 have B6 := B2.fr G6 (fun h => h)
 have C6 := C2.fr G6 (fun h => h)
 have key : ∀ {s t : B}, vshow (if vcheck v = 0 then sortS v else v) = (0, s) → vshow (if vcheck v2 = 0 then sortS v2 else v2) = (0, t) → (s == t) = vsame v v2 := fun h1 h2 => texts_same h1 h2
 have hbad : (vshow (if vcheck v = 0 then sortS v else v)).1 ≠ 0 → (vshow (if vcheck v = 0 then sortS v else v)).2 = [] := vshow_bad
 generalize vshow (if vcheck v = 0 then sortS v else v) = A at *
 generalize vshow (if vcheck v2 = 0 then sortS v2 else v2) = D at *
 obtain ⟨a, s⟩ := A
 obtain ⟨b, t⟩ := D
 dsimp only at hbad key ⊢
 refine join1_ok (c := .bool) (fun (x : Bool) w' => x = decide (a ≠ 0 ∨ b ≠ 0) ∧ w6 = w') (fun kj hkj => ite_ok (fun h => hkj _ _ ⟨?_, rfl⟩) fun h => hkj _ _ ⟨?_, rfl⟩) ?_
 ·have h : ¬ (a : Int) = 0 := by simpa using h
  exact (decide_eq_true (.inl (by omega))).symm
 ·have h : (a : Int) = 0 := by simpa using h
  rw [Bool.eq_iff_iff, bne_iff_ne, decide_eq_true_eq]
  omega
 rintro x w' ⟨rfl, rfl⟩
 have aw : ∀ {K : Bool → G} {R : Ending → World → Prop}, (∀ w', Fr noB w6 w' → K true R w') → callG Tryz.prog 13 #[] [.one .bool] K R w6 := fun h => callB_ok (hA (hg.frV H6)) fun w7 F7 => h w7 F7
 refine ite_ok (fun h => ?_) fun h => ?_
 ·have h := of_decide_eq_true h
  refine join1_ok (c := .bool) (fun (b : Bool) w' => b = true ∧ Fr noB w w') (fun kj hkj => ite_ok (fun h0 => aw fun w7 F7 => hkj _ _ ⟨rfl, H6.tr F7⟩) fun h0 => ?_) fun b w' ⟨hb, F⟩ => ⟨by rw [hb], F⟩
  have h0 : ¬ (a : Int) = 0 := by simpa using h0
  refine ite_yes ?_ (aw fun w7 F7 => hkj _ _ ⟨rfl, H6.tr F7⟩)
  rw [eq_bl, bl_bs, hbad (by omega)]
  rfl
 ·have h := of_decide_eq_false h
  have ha : a = 0 := by omega
  have hb : b = 0 := by omega
  have hs : (s == t) = vsame v v2 := key (by rw [ha]) (by rw [hb])
  refine join1_ok (c := .bool) (fun (b : Bool) w' => b = true ∧ Fr noB w w') (fun kj hkj => ?_) fun b w' ⟨hb, F⟩ => ⟨by rw [hb], F⟩
  refine B6.ldW (C6.ldW (callB_ok (PSame_ok (hv.fr H6) (hv2.fr H6)) fun w7 F7 => ite_yes ?_ (callB_ok (hA (hg.frV (H6.tr F7))) fun w8 F8 => hkj _ _ ⟨rfl, (H6.tr F7).tr F8⟩)))
  rw [eq_bl, bl_bs, bl_bs, hs]
  exact beq_self_eq_true _
end
end Go.Proofs.YtngfnokbdcjoeaaGreatDoor
end
section
namespace Go
def JF0 (s : ChangeSpec) (c : OpenClaim) : Bool := c.wf (OpenSpec.ofChange s)
def JF1 (P : Program) : Bool := laidOutB P
def JF2 (P : Program) : Bool := mapsRowed P
def JF3 (P : Program) (fn : Func) : Bool := fn.params.all (P.readableRec ·)
def JF4 (P : Program) (s : ChangeSpec) (c : OpenClaim) : Bool := namedTie P c.named s.vars
def JF5 (c : OpenClaim) : Bool := (c.stops == [])
def JF6 (P : Program) : Bool := (P.stops == [])
def JF7 (c : OpenClaim) : Bool := (c.knobs == [])
def JF8 (P : Program) : Bool := (P.stopKnobs == [])
def JF9 (P : Program) (f : FuncId) (c : OpenClaim) : Bool := (c.inPlace == P.inPlace f)
def JF10 (P : Program) (f : FuncId) (c : OpenClaim) : Bool := (c.unfollowed == P.unfollowed f)
def JF11 (P : Program) (f : FuncId) (c : OpenClaim) : Bool := (c.recurses == P.recurses f)
def JF12 (P : Program) (f : FuncId) (c : OpenClaim) : Bool := (c.named == P.varsNamed f)
def JF13 (P : Program) (fn : Func) (s : ChangeSpec) (c : OpenClaim) : Bool := (c.maps == (fn.params.toList ++ s.plain.varTypes P).any (P.mapsRec ·))
def JF14 (P : Program) (fn : Func) (s : ChangeSpec) (c : OpenClaim) : Bool := (c.ifaces == (fn.params.toList ++ s.plain.varTypes P).any (P.ifacesRec ·))
def JF15 (P : Program) (fn : Func) (c : OpenClaim) : Bool := (c.mapsOut == P.mapsAmong fn.resultTypes.toList)
def JF16 (P : Program) (fn : Func) (s : ChangeSpec) (c : OpenClaim) : Bool := (c.loops == (fn.params.toList ++ s.plain.varTypes P).any (P.loopsFrom ·))
def JF17 (P : Program) (fn : Func) (s : ChangeSpec) (c : OpenClaim) : Bool := (c.wideKeys == (fn.params.toList ++ s.plain.varTypes P ++ fn.resultTypes.toList).any (P.wideKeysFrom ·))
def JF18 (P : Program) (s : ChangeSpec) : Bool := s.vars.all (P.varReadable ·)
def JF19 (P : Program) (fn : Func) : Bool := fn.resultTypes.all (fun t => P.readableRec t && decide (t < P.types.size))
def JF20 (P : Program) (fn : Func) (c : OpenClaim) : Bool := (c.ifacesOut == fn.resultTypes.toList.any (P.ifacesRec ·))
def JF21 (P : Program) (fn : Func) (c : OpenClaim) : Bool := (c.loopsOut == fn.resultTypes.toList.any (P.loopsFrom ·))
def JF22 (P : Program) (c : OpenClaim) : Bool := (c.plainKeys == P.plainKeys)
def JF23 (c : OpenClaim) : Bool := c.shortTexts.isNone
def JF24 (P : Program) : Bool := P.stopsHeard
def JF25 (P : Program) : Bool := P.mayEnter
def JF26 (P : Program) (c : OpenClaim) : Bool := (c.lifted == P.liftsFinal)
def JF27 (P : Program) (c : OpenClaim) : Bool := (P.make == some c.make)
def JF28 (P : Program) (fn : Func) (c : OpenClaim) : Bool := (c.kinds == (if c.domain.isEmpty then [] else fn.params.toList.map fun t => match P.underlying t with | some (.int k) => some k | _ => none))
def JF29 (c : OpenClaim) : Bool := (c.pinned == c.pinnedBy)
def JF30 (P : Program) (fn : Func) (s : ChangeSpec) (c : OpenClaim) : Bool := (c.veiled == (fn.params.toList ++ s.plain.varTypes P ++ fn.resultTypes.toList).any (P.veiledRec ·))
def JF31 (P : Program) (fn : Func) (s : ChangeSpec) (c : OpenClaim) : Bool := c.veiledFits P fn.params.toList (fn.params.toList ++ s.plain.varTypes P ++ fn.resultTypes.toList)
theorem joined_of {P : Program} {f : FuncId} {fn : Func} {s : ChangeSpec} {c : OpenClaim} (h0 : JF0 s c = true) (h1 : JF1 P = true) (h2 : JF2 P = true) (h3 : JF3 P fn = true) (h4 : JF4 P s c = true) (h5 : JF5 c = true) (h6 : JF6 P = true) (h7 : JF7 c = true) (h8 : JF8 P = true) (h9 : JF9 P f c = true) (h10 : JF10 P f c = true) (h11 : JF11 P f c = true) (h12 : JF12 P f c = true) (h13 : JF13 P fn s c = true) (h14 : JF14 P fn s c = true) (h15 : JF15 P fn c = true) (h16 : JF16 P fn s c = true) (h17 : JF17 P fn s c = true) (h18 : JF18 P s = true) (h19 : JF19 P fn = true) (h20 : JF20 P fn c = true) (h21 : JF21 P fn c = true) (h22 : JF22 P c = true) (h23 : JF23 c = true) (h24 : JF24 P = true) (h25 : JF25 P = true) (h26 : JF26 P c = true) (h27 : JF27 P c = true) (h28 : JF28 P fn c = true) (h29 : JF29 c = true) (h30 : JF30 P fn s c = true) (h31 : JF31 P fn s c = true) : joinedFacts P f fn s c = true := by
 unfold joinedFacts
 simp only [Bool.and_eq_true]
 exact ⟨⟨⟨⟨⟨⟨⟨⟨⟨⟨⟨⟨⟨⟨⟨⟨⟨⟨⟨⟨⟨⟨⟨⟨⟨⟨⟨⟨⟨⟨⟨h0, h1⟩, h2⟩, h3⟩, h4⟩, h5⟩, h6⟩, h7⟩, h8⟩, h9⟩, h10⟩, h11⟩, h12⟩, h13⟩, h14⟩, h15⟩, h16⟩, h17⟩, h18⟩, h19⟩, h20⟩, h21⟩, h22⟩, h23⟩, h24⟩, h25⟩, h26⟩, h27⟩, h28⟩, h29⟩, h30⟩, h31⟩
end Go
end
section
namespace Go.Proofs.YtngfnokbdcjoeaaGreatDoor
open Go.Lift Go.ChangeShapes Go.WideShapes Go.ChangeAt Go.RowKit
theorem fr_keptBut {W W' : World} (F : Fr noB W W') (may : MemPlace → Prop) : W.keptBut W' may := by
 refine ⟨F.os, F.output, fun i hi => ?_⟩
 rw [F.blk i hi (fun h => h)]
 cases W.heap[i]? with
 | none => rfl
 | some o => cases o <;> simp
theorem fr_same {W W' : World} (F : Fr noB W W') {p : MemPlace} (h : p.block < W.heap.size) : W.sameAt W' p := by
 cases p with
 | cell b off => exact World.cell?_of_block (F.blk b h (fun h => h))
 | map b => exact F.blk b h (fun h => h)
section
variable {H : Type} {enc : TypeId × Value → H} {P : Program} {T : TypeId → Prop} {W W' : World}
theorem trodAll_stays (K : Kids P T) (hz : ∀ t e, T t → P.underlying t = some (.slice e) → 0 < P.cellsOf e) (F : Fr noB W W') {sp : Nat → Bool} : ∀ {ts : List TypeId} {vs : List Value} {ds : List (DataW H)} {ps : List MemPlace}, (∀ t ∈ ts, T t) →
  DataW.TrodAll enc P W 0 (fun _ => true) true ts vs ds ps → (∀ p ∈ ps, sp p.block = true) → DataW.TrodAll enc P W' 0 sp true ts vs ds ps
 | [], [], [], _, _, h, _ => h
 | _ :: _, _ :: _, _ :: _, _, hT, ⟨p, q, ⟨n, h1⟩, h2, e⟩, hs =>
  ⟨p, q, ⟨n, DataW.trod_stays K (fun ht hu => hz _ _ ht hu) (fun h => by cases h) (hT _ (List.mem_cons.2 (Or.inl rfl))) h1 (fun x hx => fr_same F (DataW.trod_lt n _ _ _ h1 x hx)) (fun x hx => hs x (by rw [e]; exact List.mem_append_left _ hx))⟩,
   trodAll_stays K hz F (fun t ht => hT t (List.mem_cons.2 (Or.inr ht))) h2 (fun x hx => hs x (by rw [e]; exact List.mem_append_right _ hx)), e⟩
theorem post_true {f : Func} {s : ChangeSpec} {args : Array Value} {ds gs : List (DataW H)} {before : List MemPlace} {tb : TypeId} (hvs : s.vars = [])
  (hW : DataW.Whole enc P f.params.toList s.vars false W args.toList ds gs before) (hfn : s.fn H (ds ++ gs) = { results := [.lit (.bool true)], args := ds })
  (K : Kids P T) (hz : ∀ t e, T t → P.underlying t = some (.slice e) → 0 < P.cellsOf e) (hT : ∀ t ∈ f.params.toList, T t) (F : Fr noB W W')
  (hr : f.resultTypes = #[tb]) (hb : P.underlying tb = some .bool) : s.post enc P f false true false false W args (.bool true) W' := by
 have hW' := hW
 have hold : ∀ p ∈ before, (fun b => decide (b < W.heap.size)) p.block = true := fun p hp => by simpa using hW.lt p hp
 obtain ⟨p, q, hA0, hV, hpq, hfz, hnd⟩ := hW
 have hA : DataW.TrodAll enc P W 0 (fun _ => true) true f.params.toList args.toList ds p := hA0
 rw [hvs] at hV
 obtain ⟨hg0, hq0⟩ := trodVars_none hV
 have hpp : before = p := by rw [hpq, hq0, List.append_nil]
 have hargs : ∀ sp : Nat → Bool, (∀ p ∈ before, sp p.block = true) → DataW.TrodAll enc P W' 0 sp true f.params.toList args.toList ds p := fun sp hsp =>
  trodAll_stays K hz F hT hA (fun x hx => hsp x (by rw [hpp]; exact hx))
 have hres : ∀ (b : Nat) (sp : Nat → Bool) (hd : Bool), DataW.TrodAll enc P W' b sp hd f.resultTypes.toList ((Value.bool true).resultList f.resultTypes.size) [.lit (.bool true)] [] := fun b sp hd => by
  rw [hr]
  exact trodAll_cons_mk (shut_bool hb _) trodAll_mk0
 have hvars : ∀ sp : Nat → Bool, DataW.TrodVars enc P W' sp s.vars (s.fn H (ds ++ gs)).vars [] := fun sp => by
  rw [hvs, hfn]
  rfl
 refine ⟨ds, gs, before, [], p, [], hW', by rw [hfn]; exact hres _ _ _, by rw [hfn]; exact hargs _ hold, hvars _, fr_keptBut F _, fun h => by cases h⟩
end
theorem kids : Kids Tryz.prog (· < Tryz.prog.types.size) := kids_rows (by kernel_rfl) (by kernel_rfl)
theorem full : ∀ t e, t < Tryz.prog.types.size → Tryz.prog.underlying t = some (.slice e) → 0 < Tryz.prog.cellsOf e := slices_full_of Tryz.prog (by kernel_rfl)
theorem own : ownKnob Tryz.prog.godebug = none := by kernel_rfl
end Go.Proofs.YtngfnokbdcjoeaaGreatDoor
end
