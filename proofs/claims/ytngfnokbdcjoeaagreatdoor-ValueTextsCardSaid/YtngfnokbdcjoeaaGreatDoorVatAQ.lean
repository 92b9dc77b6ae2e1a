/- The law behind: one part of its proof (joined by program out of my own texts). No condition. -/
import Derived.Test.YtngfnokbdcjoeaaGreatDoorVatAP
import Derived.RangeFuncBox
import Derived.RangeFuncLeaves
import Derived.Shelf.Abstract
import Derived.WalkKit
import Derived.OwnWalkIn
import Derived.TacticsInMore
import Derived.LoopNIn
import Derived.LoopIn
import Derived.Maps.AppendAt
import Derived.Test.YtngfnokbdcjoeaaGreatDoorChecked
section
namespace Go.Lift
section
variable {R : Ending → World → Prop} {w : World}
theorem vpart_ld0 {w0 : World} {l : List Go.Shp.Shape} {a : Option Addr} {len i : Nat} {s : Go.Shp.Shape} {K : Int → Int → ByteArray → ByteArray → Sl → Sl → G} (h : VaL w0 a 0 l) (F : Fr noB w0 w) (hs : l[i]? = some s) (hl : len = l.length)
  (hk : ∀ k z o n ns ps, VaV w0 k z o n ns ps s → K k z o n ns ps R w) :
  idxG a len (i : Int) 6 (fun (x : Addr) => ldG (.int .i64) (x.add 0) (fun (k : Int) => ldG (.int .i64) (x.add 1) (fun (z : Int) => ldG .str (x.add 2) (fun (o : ByteArray) => ldG .str (x.add 3) (fun (n : ByteArray) => ldG .slice (x.add 4) (fun (ns : Sl) => ldG .slice (x.add 5) (fun (ps : Sl) => K k z o n ns ps))))))) R w := by
 obtain ⟨g, off, k, z, o, n, ns, ps, rfl, c0, c1, c2, c3, c4, c5, hv⟩ := h.at hs
 have hi := (List.getElem?_eq_some_iff.1 hs).1
 rw [Nat.zero_add] at c0 c1 c2 c3 c4 c5
 refine idxB_ok (n := len) (i := i) (by omega) ?_
 simp only [Addr.add_lit, Nat.add_zero]
 exact ld_ok (c := .int .i64) (F.cell c0 fun h => h) (ld_ok (c := .int .i64) (F.cell c1 fun h => h) (ld_ok (c := .str) (F.cell c2 fun h => h) (ld_ok (c := .str) (F.cell c3 fun h => h) (ld_ok (c := .slice) (x := ns) (F.cell c4 fun h => h) (ld_ok (c := .slice) (x := ps) (F.cell c5 fun h => h) (hk k z o n ns ps hv))))))
theorem fill6_ok {m : Nat} {t : TypeId} {l : List Value} {v0 v1 v2 v3 v4 v5 : Value} {k : G} (B : Blk w m t l) (hl : l.length = 6) (h0 : v0.oneCell' = true) (h1 : v1.oneCell' = true) (h2 : v2.oneCell' = true) (h3 : v3.oneCell' = true) (h4 : v4.oneCell' = true) (h5 : v5.oneCell' = true)
  (hk : ∀ w', Blk w' m t [v0, v1, v2, v3, v4, v5] → Fr (oneB m) w w' → k R w') : stG ⟨m, 0, none⟩ v0 (stG ⟨m, 1, none⟩ v1 (stG ⟨m, 2, none⟩ v2 (stG ⟨m, 3, none⟩ v3 (stG ⟨m, 4, none⟩ v4 (stG ⟨m, 5, none⟩ v5 k))))) R w := by
 match l, hl with
 | [a, b, c, d, e, f], _ =>
  refine B.st h0 (by simp) fun w1 B1 F1 => B1.st h1 (by simp) fun w2 B2 F2 => B2.st h2 (by simp) fun w3 B3 F3 => B3.st h3 (by simp) fun w4 B4 F4 => B4.st h4 (by simp) fun w5 B5 F5 => B5.st h5 (by simp) fun w6 B6 F6 => ?_
  exact hk _ B6 (st_fr (st_fr (st_fr (st_fr (st_fr F1 F2) F3) F4) F5) F6)
end
end Go.Lift
namespace Go.Proofs.YtngfnokbdcjoeaaGreatDoor
open Go.Lift Go.Lex Go.Shp
def fullV : List PanicEntry := [{ v := .iface 54 (.agg #[]), recovered := false }]
def MetV (b : Nat) (T : TypeId) (c m : Nat) (v : Value) (w : World) (e : Ending) (w' : World) : Prop :=
 Fr (oneB b) w w' ∧ ((c + m ≤ 2000 ∧ e = .returned v ∧ Blk w' b T [.int .i64 ((c + m : Nat) : Int)]) ∨ (2000 < c + m ∧ e = .panicked fullV ∧ ∃ x : Int, Blk w' b T [.int .i64 x]))
theorem vwalk_ok : ∀ (d : Nat) (s : Shape), size s ≤ d → ∀ {w0 w : World} {b : Nat} {T : TypeId} {c lv : Nat} {k z0 : Int} {o n : ByteArray} {ns ps : Sl}, VaV w0 k z0 o n ns ps s → Fr noB w0 w → w0.heap.size ≤ b → Blk w b T [.int .i64 (c : Int)] → c ≤ 2000 → lv ≤ c + 1 →
  Calls Tryz.prog 42 #[vaArg k z0 o n ns ps, .int .i64 (lv : Int), .pointer (some ⟨b, 0, none⟩)] w (MetV b T c (size s) (.int .i64 ((lv + deep s - 1 : Nat) : Int)) w)
 | 0, s, h, _, _, _, _, _, _, _, _, _, _, _, _, _, _, _, _, _, _ => by have := size_pos s; omega
 | d + 1, .mk k' o' n' names parts, hd, w0, w, b, T, c, lv, k, z0, o, n, ns, ps, hv, F0, hb, B, hc, hlv => by
  rw [size_mk] at hd
  obtain ⟨_, _, _, ⟨_, _, _, hpn, hpl, _⟩, hps⟩ := hv.parts
  change ps.n = parts.length at hpn
  change parts.length < _ at hpl
  change VaL w0 ps.a 0 parts at hps
  have hbl := B.lt
  apply c42
  unfold t42 wrZ ivZ ldIZ ldLZ ld6mZ ld6xZ vaZ st6Z nw6Z nz6Z caIZ jn0Z jnIZ lpIIZ ixZ
  refine new_ok fun w1 m7 hm7 hs1 C1 F1 => ?_
  change Blk w1 m7 _ (vaCells k z0 o n ns ps) at C1
  have B1 := B.fr F1 (fun h => h)
  have ew0 : IntKind.wrap .i64 ((c : Int) + 1) = ((c + 1 : Nat) : Int) := by rw [wrap_ok (by omega) (by omega)]; omega
  refine nn_ok (B1.ld (c := .int .i64) (x := (c : Int)) (o := 0) rfl (nn_ok (B1.st rfl (by simp) fun w2 B2 F2 => nn_ok ?_)))
  rw [ew0] at B2
  change Blk w2 b T [.int .i64 ((c + 1 : Nat) : Int)] at B2
  have G2 := st_fr F1.ob F2
  refine B2.ld (c := .int .i64) (x := ((c + 1 : Nat) : Int)) (o := 0) rfl (join0_ok (fun w' => w' = w2 ∧ c + 1 ≤ 2000) (fun kj hkj => ite_ok (fun h => ?_) fun h => hkj _ ⟨rfl, ?_⟩) fun w' ⟨hw, hle⟩ => ?_)
  ·have h : ((c + 1 : Nat) : Int) > 2000 := of_decide_eq_true h
   exact ⟨⟨_, _, rfl⟩, G2, .inr ⟨by rw [size_mk]; omega, rfl, _, B2⟩⟩
  ·have h : ¬ ((c + 1 : Nat) : Int) > 2000 := of_decide_eq_false h
   omega
  replace hw := hw.symm
  subst hw
  refine (C1.fr F2 (show ¬ m7 = b by omega)).ldS (o := 5) rfl ?_
  refine join1_ok (c := .int .i64) (fun (y : Int) w' => y = ((lv + deeps parts : Nat) : Int) ∧ c + 1 + sizes parts ≤ 2000 ∧ Fr (oneB b) w w' ∧ Blk w' b T [.int .i64 ((c + 1 + sizes parts : Nat) : Int)]) (fun kend hkend => ?_) ?_
  rotate_left
  ·rintro y w' ⟨rfl, hle', G, B'⟩
   refine ⟨G, .inl ⟨by rw [size_mk]; omega, ?_, ?_⟩⟩
   ·rw [deep_mk]
    congr 3
    omega
   ·rw [size_mk, show c + (1 + sizes parts) = c + 1 + sizes parts by omega]
    exact B'
  refine loop_ok (vs := [.one (.int .i64), .one (.int .i64)]) (fun xs w' => ∃ i : Nat, i ≤ parts.length ∧ (show Int from xs.2.1.1) = (i : Int) ∧ (show Int from xs.1.1) = ((lv + deeps (parts.take i) : Nat) : Int) ∧ c + 1 + sizes (parts.take i) ≤ 2000 ∧ Fr (oneB b) w w' ∧ Blk w' b T [.int .i64 ((c + 1 + sizes (parts.take i) : Nat) : Int)])
   (fun xs => parts.length - (show Int from xs.2.1.1).toNat) ?_ (xs := (((lv : Int), ()), (((0 : Int), ()), ()))) ⟨0, Nat.zero_le _, rfl, by rw [List.take_zero, deeps]; rfl, by rw [List.take_zero, sizes]; omega, G2, by rw [List.take_zero, sizes]; exact B2⟩
  rintro rec ⟨⟨y, ⟨⟩⟩, ⟨⟨z, ⟨⟩⟩, ⟨⟩⟩⟩ w3 ⟨i, hi, hz, hy, hle3, G3, B3⟩ hrec
  change z = (i : Int) at hz
  change y = _ at hy
  subst hz hy
  refine ite_ok (fun hlt => ?_) fun hge => ?_
  ·have hlt : (i : Int) < (ps.n : Int) := of_decide_eq_true hlt
   obtain ⟨s, hs⟩ : ∃ s, parts[i]? = some s := ⟨_, List.getElem?_eq_getElem (by omega)⟩
   have hsz := size_mem (List.mem_of_getElem? hs)
   have K3 : Fr noB w0 w3 := F0.then G3 (fun x hx hxb => by unfold oneB at hxb; omega)
   have hds := deep_pos s
   have hdz := deep_size s
   have hdt := deeps_sizes (parts.take i)
   have e1 := sizes_take hs
   have e2 := deeps_take hs
   have hle4 := sizes_take_le parts (i + 1)
   refine join_in (vs := [.one (.int .i64)]) (vpart_ld0 hps K3 hs hpn fun k1 z1 o1 n1 ns1 ps1 hv1 => new_ok fun w4 m24 hm24 hs4 B4 F4 => fill6_ok B4 rfl rfl rfl rfl rfl rfl rfl fun w5 B5 F5 => ?_)
   change Blk w5 m24 _ (vaCells k1 z1 o1 n1 ns1 ps1) at B5
   have hsz3 := G3.size
   have F35 : Fr noB w3 w5 := F4.fill (by omega) F5
   have ew : IntKind.wrap .i64 ((lv : Int) + 1) = ((lv + 1 : Nat) : Int) := by rw [wrap_ok (by omega) (by omega)]; omega
   rw [ew]
   refine B5.ldW (callPan_ok (vwalk_ok d s (by omega) hv1 (K3.tr F35) hb (B3.fr F35 fun h => h) hle3 (by omega)) ?_)
   rintro e w6 ⟨F6, ⟨hle6, rfl, B6⟩ | ⟨hgt, rfl, x, B6⟩⟩
   ·refine .inl ⟨((_, ()), ()), rfl, ?_⟩
    have G6 := st_fr (st_fr G3 F35.ob) F6
    have ew2 : IntKind.wrap .i64 ((i : Int) + 1) = ((i + 1 : Nat) : Int) := by rw [wrap_ok (by omega) (by omega)]; omega
    refine hrec ((_, ()), ((_, ()), ())) _ ⟨i + 1, by omega, ew2, ?_, by omega, G6, ?_⟩ ?_
    ·rw [e2]
     show (if ((lv + 1 + deep s - 1 : Nat) : Int) > ((lv + deeps (parts.take i) : Nat) : Int) then ((lv + 1 + deep s - 1 : Nat) : Int) else ((lv + deeps (parts.take i) : Nat) : Int)) = _
     split <;> omega
    ·rw [e1, show c + 1 + (sizes (parts.take i) + size s) = c + 1 + sizes (parts.take i) + size s by omega]
     exact B6
    ·show parts.length - (IntKind.wrap .i64 ((i : Int) + 1)).toNat < parts.length - (i : Int).toNat
     rw [ew2]
     simp only [Int.toNat_natCast]
     omega
   ·exact .inr ⟨_, rfl, st_fr (st_fr G3 F35.ob) F6, .inr ⟨by rw [size_mk]; omega, rfl, x, B6⟩⟩
  ·have hge : ¬ (i : Int) < (ps.n : Int) := of_decide_eq_false hge
   have : i = parts.length := by omega
   subst this
   rw [List.take_length] at hle3 B3 ⊢
   exact hkend _ _ ⟨rfl, hle3, G3, B3⟩
def vcatchEnv (b0 b1 b2 : Nat) : Env := [(0, .v (.pointer (some ⟨b0, 0, none⟩))), (1, .v (.pointer (some ⟨b1, 0, none⟩))), (2, .v (.pointer (some ⟨b2, 0, none⟩))), (3, .v (.iface 54 (.agg #[])))]
theorem vcatchGet {b0 b1 b2 t : Nat} {e : EV} (h : (vcatchEnv b0 b1 b2).get t = some e) : (t = 0 ∧ e = .v (.pointer (some ⟨b0, 0, none⟩))) ∨ (t = 1 ∧ e = .v (.pointer (some ⟨b1, 0, none⟩))) ∨ (t = 2 ∧ e = .v (.pointer (some ⟨b2, 0, none⟩))) ∨ (t = 3 ∧ e = .v (.iface 54 (.agg #[]))) := by
 unfold vcatchEnv at h
 simp only [Env.get] at h
 cases h0 : Nat.beq 0 t with
 | true => rw [h0] at h; cases h; exact .inl ⟨(Nat.eq_of_beq_eq_true h0).symm, rfl⟩
 | false =>
  rw [h0] at h
  cases h1 : Nat.beq 1 t with
  | true => rw [h1] at h; cases h; exact .inr (.inl ⟨(Nat.eq_of_beq_eq_true h1).symm, rfl⟩)
  | false =>
   rw [h1] at h
   cases h2 : Nat.beq 2 t with
   | true => rw [h2] at h; cases h; exact .inr (.inr (.inl ⟨(Nat.eq_of_beq_eq_true h2).symm, rfl⟩))
   | false =>
    rw [h2] at h
    cases h3 : Nat.beq 3 t with
    | true => rw [h3] at h; cases h; exact .inr (.inr (.inr ⟨(Nat.eq_of_beq_eq_true h3).symm, rfl⟩))
    | false => rw [h3] at h; cases h
theorem vcatchE (b0 b1 b2 : Nat) : den Tryz.prog (GA Tryz.prog) 17 (behindC Tryz.f41.body) .leaf [] (vcatchEnv b0 b1 b2) catchK =
  opG Tryz.prog (eqSem .neq 20 (.tmp 7) (.const .nilIface) (.iface 54 (.agg #[])) .nilIface) (.one .bool) (fun (b : Bool) => iteG b (newG (.cells #[] 54 (0, 0)) (fun _ => stG ⟨b0, 0, none⟩ (.int .i64 2001) (stG ⟨b1, 0, none⟩ (.int .i64 0) (stG ⟨b2, 0, none⟩ (.bool false) (retG (.tuple #[])))))) (retG (.tuple #[]))) := by kernel_rfl
theorem vcatch_full {b0 b1 b2 : Nat} {T U V : TypeId} {x y : Int} {z : Bool} {w : World} (B0 : Blk w b0 T [.int .i64 x]) (B1 : Blk w b1 U [.int .i64 y]) (B2 : Blk w b2 V [.bool z]) (h01 : b0 ≠ b1) (h02 : b0 ≠ b2) (h12 : b1 ≠ b2) :
  CallsD Tryz.prog 41 #[.pointer (some ⟨b0, 0, none⟩), .pointer (some ⟨b1, 0, none⟩), .pointer (some ⟨b2, 0, none⟩)] (.panicking fullV) w fun e u' w' =>
   e = .returned (.tuple #[]) ∧ (∃ v, u' = .panicking [{ v := v, recovered := true }]) ∧ Blk w' b0 T [.int .i64 2001] ∧ Blk w' b1 U [.int .i64 0] ∧ Blk w' b2 V [.bool false] ∧ Fr (fun k => k = b0 ∨ k = b1 ∨ k = b2) w w' := by
 refine callsD_of_wpS Tryz.func41 rfl fun c₀ cs hu => ?_
 unfold fullV at hu
 apply wpS_seq
 apply wpS_region
 simp [wpOpsS, go_sem, recoverD, hu, Tryz.ntmps41, Exit.thenS]
 change Code.wpS Tryz.prog (behindC Tryz.f41.body) _ _ _ _
 refine wpS_of_wp ?_
 refine wp_mono (den_ok (D := []) (n := 17) (R := fun e w' => e = .returned (.tuple #[]) ∧ Blk w' b0 T [.int .i64 2001] ∧ Blk w' b1 U [.int .i64 0] ∧ Blk w' b2 V [.bool false] ∧ Fr (fun k => k = b0 ∨ k = b1 ∨ k = b2) w w') mixed _ .leaf [] (vcatchEnv b0 b1 b2) catchK _ _ ?_ ?_) ?_
 ·rw [vcatchE]
  refine opB_ok true (by simp [eqSem, go_sem]) (ite_yes rfl ?_)
  refine new_ok fun w1 m hm hs1 _ F1 => ?_
  refine (B0.fr F1 fun h => h).st rfl (by simp) fun w2 C0 F2 => ((B1.fr F1 fun h => h).fr F2 (by unfold oneB; omega)).st rfl (by simp) fun w3 C1 F3 => (((B2.fr F1 fun h => h).fr F2 (by unfold oneB; omega)).fr F3 (by unfold oneB; omega)).st rfl (by simp) fun w4 C2 F4 => ?_
  refine ⟨rfl, (C0.fr F3 (by unfold oneB; omega)).fr F4 (by unfold oneB; omega), C1.fr F4 (by unfold oneB; omega), C2, ?_⟩
  have K1 : Fr (fun k => k = b0 ∨ k = b1 ∨ k = b2) w w1 := F1.mono fun _ _ h => h.elim
  have K2 : Fr (fun k => k = b0 ∨ k = b1 ∨ k = b2) w1 w2 := F2.mono fun _ _ h => .inl h
  have K3 : Fr (fun k => k = b0 ∨ k = b1 ∨ k = b2) w2 w3 := F3.mono fun _ _ h => .inr (.inl h)
  have K4 : Fr (fun k => k = b0 ∨ k = b1 ∨ k = b2) w3 w4 := F4.mono fun _ _ h => .inr (.inr h)
  exact ((K1.then K2 fun _ _ h => h).then K3 fun _ _ h => h).then K4 fun _ _ h => h
 ·refine ⟨by simp, rfl, fun t e h => ?_⟩
  rcases vcatchGet h with ⟨rfl, rfl⟩ | ⟨rfl, rfl⟩ | ⟨rfl, rfl⟩ | ⟨rfl, rfl⟩ <;> simp [EV.val]
 ·rintro e a' w' q
  cases e with
  | normal =>
   obtain ⟨env', h1, _, h3⟩ := q
   obtain ⟨he, r⟩ := h3
   exact ⟨h1.defers, _, rfl, _, results_none rfl _ _ _, rfl, ⟨_, rfl⟩, r⟩
  | ret =>
   obtain ⟨env', h1, _, h3⟩ := q
   obtain ⟨he, r⟩ := h3
   exact ⟨h1.defers, _, rfl, _, results_none rfl _ _ _, rfl, ⟨_, rfl⟩, r⟩
  | panic c => cases q.2.2.1
  | exit id => obtain ⟨_, _, _, h3⟩ := q; exact h3.elim
  | _ => exact q.elim
theorem vcatch_none {p0 p1 p2 : Value} {w : World} :
  CallsD Tryz.prog 41 #[p0, p1, p2] .returning w fun e u' w' => e = .returned (.tuple #[]) ∧ u' = .returning ∧ w' = w := by
 refine callsD_of_wpS Tryz.func41 rfl fun c₀ cs hu => ?_
 apply wpS_seq
 apply wpS_region
 simp [wpOpsS, go_sem, recoverD, hu, Tryz.ntmps41, Exit.thenS]
 apply wpS_seq
 apply wpS_region
 simp [wpOpsS, go_sem, Exit.thenS]
 refine wpS_cond (t := false) (by simp [Act.eval, Array.replicate]) ?_
 simp only [Bool.false_eq_true, if_false]
 refine wpS_of_wp (wp_skip ?_)
 refine ⟨rfl, _, rfl, _, results_none rfl _ _ _, rfl, ?_, rfl⟩
 first | rfl | exact hu
def vcountEnv (h : Nat) : Env := [(1, .v (.pointer (some ⟨h, 0, none⟩))), (2, .v (.pointer (some ⟨h + 1, 0, none⟩))), (3, .v (.pointer (some ⟨h + 1 + 1, 0, none⟩))), (4, .v (.pointer (some ⟨h + 1 + 1 + 1, 0, none⟩)))]
theorem vcountGet {h t : Nat} {e : EV} (hg : (vcountEnv h).get t = some e) : (t = 1 ∧ e = .v (.pointer (some ⟨h, 0, none⟩))) ∨ (t = 2 ∧ e = .v (.pointer (some ⟨h + 1, 0, none⟩))) ∨ (t = 3 ∧ e = .v (.pointer (some ⟨h + 1 + 1, 0, none⟩))) ∨ (t = 4 ∧ e = .v (.pointer (some ⟨h + 1 + 1 + 1, 0, none⟩))) := by
 unfold vcountEnv at hg
 simp only [Env.get] at hg
 cases h0 : Nat.beq 1 t with
 | true => rw [h0] at hg; cases hg; exact .inl ⟨(Nat.eq_of_beq_eq_true h0).symm, rfl⟩
 | false =>
  rw [h0] at hg
  cases h1 : Nat.beq 2 t with
  | true => rw [h1] at hg; cases hg; exact .inr (.inl ⟨(Nat.eq_of_beq_eq_true h1).symm, rfl⟩)
  | false =>
   rw [h1] at hg
   cases h2 : Nat.beq 3 t with
   | true => rw [h2] at hg; cases hg; exact .inr (.inr (.inl ⟨(Nat.eq_of_beq_eq_true h2).symm, rfl⟩))
   | false =>
    rw [h2] at hg
    cases h3 : Nat.beq 4 t with
    | true => rw [h3] at hg; cases hg; exact .inr (.inr (.inr ⟨(Nat.eq_of_beq_eq_true h3).symm, rfl⟩))
    | false => rw [h3] at hg; cases hg
theorem vcountE (h : Nat) : den Tryz.prog (GA Tryz.prog) 10 (behindC (some (behindC Tryz.f25.body))) .leaf [2, 3, 4] (vcountEnv h) catchK =
  ldG (.int .i64) ⟨h, 0, none⟩ (fun (k : Int) => ldG (.int .i64) ⟨h, 1, none⟩ (fun (z : Int) => ldG .str ⟨h, 2, none⟩ (fun (o : ByteArray) => ldG .str ⟨h, 3, none⟩ (fun (n : ByteArray) => ldG .slice ⟨h, 4, none⟩ (fun (ns : Sl) => ldG .slice ⟨h, 5, none⟩ (fun (ps : Sl) =>
   callG Tryz.prog 42 #[vaArg k z o n ns ps, .int .i64 1, .pointer (some ⟨h + 1, 0, none⟩)] [.one (.int .i64)] (fun (d : Int) => stG ⟨h + 1 + 1, 0, none⟩ (.int .i64 d) (drewG
    (ldG (.int .i64) ⟨h + 1, 0, none⟩ (fun (x : Int) => ldG (.int .i64) ⟨h + 1 + 1, 0, none⟩ (fun (y : Int) => stG ⟨h + 1, 0, none⟩ (.int .i64 x) (keepG [(⟨h + 1 + 1, 0, none⟩, [.int .i64 y])] (stG ⟨h + 1 + 1, 0, none⟩ (.int .i64 y) (stG ⟨h + 1 + 1 + 1, 0, none⟩ (.bool true) (retG (.tuple #[])))))))))))))))) := by kernel_rfl
theorem vcountRes {tmps : Array Value} {w : World} {b0 b1 b2 : Nat} {T U V : TypeId} {x y : Int} {z : Bool} (h2 : tmps.getD 2 undef = .pointer (some ⟨b0, 0, none⟩)) (h3 : tmps.getD 3 undef = .pointer (some ⟨b1, 0, none⟩)) (h4 : tmps.getD 4 undef = .pointer (some ⟨b2, 0, none⟩))
  (B0 : Blk w b0 T [.int .i64 x]) (B1 : Blk w b1 U [.int .i64 y]) (B2 : Blk w b2 V [.bool z]) : (results Tryz.f25 tmps).run Tryz.prog w = .ok (.tuple #[.int .i64 x, .int .i64 y, .bool z]) w := by
 have c0 := B0.cell (o := 0) rfl
 have c1 := B1.cell (o := 0) rfl
 have c2 := B2.cell (o := 0) rfl
 have hr : Tryz.f25.results = #[.cell 2 3, .cell 3 3, .cell 4 4] := rfl
 rw [results_eq, hr]
 simp [resV, h2, h3, h4, c0, c1, c2, go_sem]
theorem vcount_ok {w : World} {k z : Int} {o n : ByteArray} {ns ps : Sl} {s : Shape} (hv : VaV w k z o n ns ps s) : Calls Tryz.prog 25 #[vaArg k z o n ns ps] w fun e w' => e = .returned (.tuple #[.int .i64 (if 2000 < size s then 2001 else (size s : Int)), .int .i64 (if 2000 < size s then 0 else (deep s : Int)), .bool (decide (size s ≤ 2000))]) ∧ Fr noB w w' := by
 have hmf : ∀ (fn : Fn) (first cap : Array Value) (w : World), (Instr.makeFunc fn first cap).run Tryz.prog w = .ok (.func fn first cap) w := fun _ _ _ _ => rfl
 go_enter_defers Tryz.func25, Tryz.ntmps25
 apply wp_seq
 apply wp_region_list
 simp [wpList, Oper.wp, go_sem, Exit.then]
 repeat refine Or.inl ?_
 apply wp_seq
 apply wp_region_list
 simp [wpList, Oper.wp, go_sem, Exit.then]
 repeat refine Or.inl ?_
 change Code.wp _ (behindC (some (behindC Tryz.f25.body))) _ _ _
 have A0 : Blk (w.alloc (.cells #[.int .i64 k, .int .i64 z, .string o, .string n, .slice ns.a ns.n ns.c, .slice ps.a ps.n ps.c] 25)) w.heap.size 25 (vaCells k z o n ns ps) := blk_alloc w _ _
 have G0 := fr_alloc w (.cells #[.int .i64 k, .int .i64 z, .string o, .string n, .slice ns.a ns.n ns.c, .slice ps.a ps.n ps.c] 25)
 have z0 : (w.alloc (.cells #[.int .i64 k, .int .i64 z, .string o, .string n, .slice ns.a ns.n ns.c, .slice ps.a ps.n ps.c] 25)).heap.size = w.heap.size + 1 := by simp
 generalize w.alloc (.cells #[.int .i64 k, .int .i64 z, .string o, .string n, .slice ns.a ns.n ns.c, .slice ps.a ps.n ps.c] 25) = w0 at A0 G0 z0 ⊢
 have A1 := blk_alloc w0 #[.int .i64 0] 3
 have G1 := fr_alloc w0 (.cells #[.int .i64 0] 3)
 have z1 : (w0.alloc (.cells #[.int .i64 0] 3)).heap.size = w.heap.size + 1 + 1 := by simp [z0]
 rw [z0] at A1
 replace A0 := A0.fr G1 fun h => h
 replace G1 := G0.tr G1
 generalize w0.alloc (.cells #[.int .i64 0] 3) = w1 at A0 A1 G1 z1 ⊢
 have A2 := blk_alloc w1 #[.int .i64 0] 3
 have G2 := fr_alloc w1 (.cells #[.int .i64 0] 3)
 have z2 : (w1.alloc (.cells #[.int .i64 0] 3)).heap.size = w.heap.size + 1 + 1 + 1 := by simp [z1]
 rw [z1] at A2
 replace A0 := A0.fr G2 fun h => h
 replace A1 := A1.fr G2 fun h => h
 replace G2 := G1.tr G2
 generalize w1.alloc (.cells #[.int .i64 0] 3) = w2 at A0 A1 A2 G2 z2 ⊢
 have A3 := blk_alloc w2 #[.bool false] 4
 have G3 := fr_alloc w2 (.cells #[.bool false] 4)
 rw [z2] at A3
 replace A0 := A0.fr G3 fun h => h
 replace A1 := A1.fr G3 fun h => h
 replace A2 := A2.fr G3 fun h => h
 replace G3 := G2.tr G3
 generalize w2.alloc (.cells #[.bool false] 4) = w3 at A0 A1 A2 A3 G3 ⊢
 clear G0 G1 G2 z0 z1 z2 w0 w1 w2
 refine wp_mono (den_ok (n := 10) (D := [{ target := .fn (.func 41) #[.pointer (some ⟨w.heap.size + 1, 0, none⟩), .pointer (some ⟨w.heap.size + 1 + 1, 0, none⟩), .pointer (some ⟨w.heap.size + 1 + 1 + 1, 0, none⟩)], args := #[] }])
  (R := fun e w' => Fr noB w w' ∧ ((size s ≤ 2000 ∧ e = .returned (.tuple #[]) ∧ Blk w' (w.heap.size + 1) 3 [.int .i64 (size s : Int)] ∧ Blk w' (w.heap.size + 1 + 1) 3 [.int .i64 (deep s : Int)] ∧ Blk w' (w.heap.size + 1 + 1 + 1) 4 [.bool true]) ∨
   (2000 < size s ∧ e = .panicked fullV ∧ ∃ (x y : Int) (z : Bool), Blk w' (w.heap.size + 1) 3 [.int .i64 x] ∧ Blk w' (w.heap.size + 1 + 1) 3 [.int .i64 y] ∧ Blk w' (w.heap.size + 1 + 1 + 1) 4 [.bool z]))) mixed _ .leaf [2, 3, 4] (vcountEnv w.heap.size) catchK _ _ ?_ ?_) ?_
 ·rw [vcountE]
  refine A0.ldW (callPan_ok (vwalk_ok (size s) s (Nat.le_refl _) (c := 0) (lv := 1) hv G3 (by omega) A1 (by omega) (by omega)) ?_)
  rintro e w4 ⟨F4, ⟨hle, rfl, B1⟩ | ⟨hgt, rfl, x, B1⟩⟩
  ·refine .inl ⟨((_, ()), ()), rfl, ?_⟩
   have B2 := A2.fr F4 (by unfold oneB; omega)
   have B3 := A3.fr F4 (by unfold oneB; omega)
   have K4 : Fr noB w w4 := G3.then F4 fun x hx h => by unfold oneB at h; omega
   refine B2.st rfl (by simp) fun w5 C2 F5 => drew_ok fun w6 F6 z6 => ?_
   have C1 := (B1.fr F5 (by unfold oneB; omega)).fr F6 fun h => h
   have C3 := (B3.fr F5 (by unfold oneB; omega)).fr F6 fun h => h
   replace C2 := C2.fr F6 fun h => h
   refine C1.ld (c := .int .i64) (o := 0) rfl (C2.ld (c := .int .i64) (o := 0) rfl (C1.st rfl (by simp) fun w7 E1 F7 => ?_))
   have E2 := C2.fr F7 (by unfold oneB; omega)
   have E3 := C3.fr F7 (by unfold oneB; omega)
   refine keep_cons (E2.held1 rfl) (keep_nil (E2.st rfl (by simp) fun w8 H2 F8 => ?_))
   have H1 := E1.fr F8 (by unfold oneB; omega)
   have H3 := E3.fr F8 (by unfold oneB; omega)
   refine H3.st rfl (by simp) fun w9 J3 F9 => ?_
   have J1 := H1.fr F9 (by unfold oneB; omega)
   have J2 := H2.fr F9 (by unfold oneB; omega)
   have K9 : Fr noB w w9 := ((((K4.then F5 fun x hx h => by unfold oneB at h; omega).tr F6).then F7 fun x hx h => by unfold oneB at h; omega).then F8 fun x hx h => by unfold oneB at h; omega).then F9 fun x hx h => by unfold oneB at h; omega
   have e1 : 1 + deep s - 1 = deep s := by omega
   rw [e1] at J2
   rw [Nat.zero_add] at J1
   exact ⟨K9, .inl ⟨by omega, rfl, J1, J2, J3⟩⟩
  ·refine .inr ⟨_, rfl, G3.then F4 (fun x hx h => by unfold oneB at h; omega), .inr ⟨by omega, rfl, x, 0, false, B1, A2.fr F4 (by unfold oneB; omega), A3.fr F4 (by unfold oneB; omega)⟩⟩
 ·refine ⟨by simp, rfl, fun t e h => ?_⟩
  rcases vcountGet h with ⟨rfl, rfl⟩ | ⟨rfl, rfl⟩ | ⟨rfl, rfl⟩ | ⟨rfl, rfl⟩ <;> simp [EV.val]
 ·have hK : ∀ a' : Act, Kept [2, 3, 4] { tmps := #[vaArg k z o n ns ps, .pointer (some ⟨w.heap.size, 0, none⟩), .pointer (some ⟨w.heap.size + 1, 0, none⟩), .pointer (some ⟨w.heap.size + 1 + 1, 0, none⟩), .pointer (some ⟨w.heap.size + 1 + 1 + 1, 0, none⟩), .func (.func 41) #[] #[.pointer (some ⟨w.heap.size + 1, 0, none⟩), .pointer (some ⟨w.heap.size + 1 + 1, 0, none⟩), .pointer (some ⟨w.heap.size + 1 + 1 + 1, 0, none⟩)], undef, undef, undef, undef], defers := [{ target := .fn (.func 41) #[.pointer (some ⟨w.heap.size + 1, 0, none⟩), .pointer (some ⟨w.heap.size + 1 + 1, 0, none⟩), .pointer (some ⟨w.heap.size + 1 + 1 + 1, 0, none⟩)], args := #[] }] } a' →
    a'.tmps.getD 2 undef = .pointer (some ⟨w.heap.size + 1, 0, none⟩) ∧ a'.tmps.getD 3 undef = .pointer (some ⟨w.heap.size + 1 + 1, 0, none⟩) ∧ a'.tmps.getD 4 undef = .pointer (some ⟨w.heap.size + 1 + 1 + 1, 0, none⟩) := fun a' h => ⟨h 2 rfl, h 3 rfl, h 4 rfl⟩
  have fin : ∀ (a' : Act) (w' : World), a'.defers = [{ target := .fn (.func 41) #[.pointer (some ⟨w.heap.size + 1, 0, none⟩), .pointer (some ⟨w.heap.size + 1 + 1, 0, none⟩), .pointer (some ⟨w.heap.size + 1 + 1 + 1, 0, none⟩)], args := #[] }] →
    (a'.tmps.getD 2 undef = .pointer (some ⟨w.heap.size + 1, 0, none⟩) ∧ a'.tmps.getD 3 undef = .pointer (some ⟨w.heap.size + 1 + 1, 0, none⟩) ∧ a'.tmps.getD 4 undef = .pointer (some ⟨w.heap.size + 1 + 1 + 1, 0, none⟩)) →
    Fr noB w w' → size s ≤ 2000 → Blk w' (w.heap.size + 1) 3 [.int .i64 (size s : Int)] → Blk w' (w.heap.size + 1 + 1) 3 [.int .i64 (deep s : Int)] → Blk w' (w.heap.size + 1 + 1 + 1) 4 [.bool true] →
    Leaves Tryz.prog Tryz.f25 a'.tmps (fun e w' => e = .returned (.tuple #[.int .i64 (if 2000 < size s then 2001 else (size s : Int)), .int .i64 (if 2000 < size s then 0 else (deep s : Int)), .bool (decide (size s ≤ 2000))]) ∧ Fr noB w w') a'.defers .returning w' := by
   intro a' w' hd ⟨t2, t3, t4⟩ F hle B1 B2 B3
   rw [hd]
   refine leaves_cons (f := 41) (args := #[.pointer (some ⟨w.heap.size + 1, 0, none⟩), .pointer (some ⟨w.heap.size + 1 + 1, 0, none⟩), .pointer (some ⟨w.heap.size + 1 + 1 + 1, 0, none⟩)]) (by simp) (by simp [go_sem]) ?_
   refine vcatch_none.mono ?_
   rintro e u' w'' ⟨rfl, rfl, rfl⟩
   refine ⟨_, vcountRes t2 t3 t4 B1 B2 B3, ?_, F⟩
   rw [if_neg (by omega), if_neg (by omega), decide_eq_true hle]
  rintro e a' w' q
  cases e with
  | normal =>
   obtain ⟨env', h1, h2, h3⟩ := q
   obtain ⟨F, ⟨hle, _, B1, B2, B3⟩ | ⟨_, h4, _⟩⟩ := h3
   ·exact fin a' w' h1.defers (hK _ h2) F hle B1 B2 B3
   ·cases h4
  | ret =>
   obtain ⟨env', h1, h2, h3⟩ := q
   obtain ⟨F, ⟨hle, _, B1, B2, B3⟩ | ⟨_, h4, _⟩⟩ := h3
   ·exact fin a' w' h1.defers (hK _ h2) F hle B1 B2 B3
   ·cases h4
  | panic c =>
   obtain ⟨hd, hk, F, ⟨_, h4, _⟩ | ⟨hgt, h4, x, y, z2, B1, B2, B3⟩⟩ := q
   ·cases h4
   cases h4
   obtain ⟨t2, t3, t4⟩ := hK _ hk
   show Leaves _ _ _ _ a'.defers _ _
   rw [hd]
   refine leaves_cons (f := 41) (args := #[.pointer (some ⟨w.heap.size + 1, 0, none⟩), .pointer (some ⟨w.heap.size + 1 + 1, 0, none⟩), .pointer (some ⟨w.heap.size + 1 + 1 + 1, 0, none⟩)]) (by simp) (by simp [go_sem]) ?_
   refine (vcatch_full B1 B2 B3 (by omega) (by omega) (by omega)).mono ?_
   rintro e u' w'' ⟨rfl, ⟨v, rfl⟩, C1, C2, C3, F2⟩
   refine ⟨_, vcountRes t2 t3 t4 C1 C2 C3, ?_, F.then F2 fun x hx h => ?_⟩
   ·rw [if_pos hgt, if_pos hgt, decide_eq_false (by omega)]
   ·show False
    omega
  | exit id => obtain ⟨_, _, _, h3⟩ := q; exact h3.elim
  | _ => exact q.elim
end Go.Proofs.YtngfnokbdcjoeaaGreatDoor
end
section
namespace Go.Proofs.YtngfnokbdcjoeaaGreatDoor
open Go.Lift Go.Lex Go.Shp Go.RowKit Go.Shelf
attribute [local go_sem] Oper.semAt_some
theorem add_block (a : Addr) (j : Nat) : (a.add j).block = a.block := by unfold Addr.add; split <;> rfl
set_option maxRecDepth 100000 in
set_option maxHeartbeats 2000000 in
theorem values1_in (F : Fence) (n : Nat) (h7 : F.fn 133) (hro : F.round = none) (hn : 1 ≤ n) (l Bs n₀ : Nat) (a : Addr) (len cap : Nat) (L : List B) (hll : len = L.length) (hreach : len * 8 ≤ 140737488351232) (hb : a.block < n₀) (J Jx : List B → World → Prop)
  (hY : ∀ pre x W, J pre W → pre.length < len → YieldAt F (n - 1) Tryz.prog l #[.string (bs x)] W fun e W' =>
   (e = .returned (.bool true) ∧ J (pre ++ [x]) W' ∧ Below n₀ W W') ∨ (e = .returned (.bool false) ∧ Jx (pre ++ [x]) W'))
  (W : World) (hBs : W.cell? ⟨Bs, 0, none⟩ = some (.slice (some a) len cap)) (hc : ∀ (j : Nat) x, L[j]? = some x → W.cell? (a.add j) = some (.string (bs x))) (h0 : J [] W) :
  CallsIn F n Tryz.prog 133 #[.func (.yield l) #[] #[], .pointer (some ⟨Bs, 0, none⟩)] W fun e W' => (∃ v, e = .returned v) ∧
   ((∃ ys, ys = L ∧ J ys W') ∨ (∃ pre, pre <+: L ∧ Jx pre W')) := by
 refine callsIn_of_wp Tryz.func133 rfl h7 ?_ hro
 simp only [Tryz.ntmps133, List.size_toArray, List.length_cons, List.length_nil, Nat.reduceAdd, Nat.reduceSub, Array.replicate_succ, Array.replicate_zero, List.push_toArray, List.append_toArray, List.nil_append, List.cons_append]
 gi_wp2
 gi_loopw [7] (fun i wr => ∃ k : Nat, k ≤ len ∧ i = .int .i64 k ∧ J (L.take k) wr ∧ Below n₀ W wr)
  (fun i _ => len - (intOf i).toNat)
 case atStart => exact ⟨0, Nat.zero_le _, rfl, h0, Below.refl _ _⟩
 case round =>
  obtain ⟨k, hk, rfl, hJs, hnx⟩ := hrel
  by_cases hlt : k < len
  ·obtain ⟨x, hx⟩ : ∃ x, L[k]? = some x := ⟨_, List.getElem?_eq_getElem (by omega)⟩
   obtain ⟨fn, tmps, assign, body, hy, hR⟩ := hY _ x wr hJs (by rw [List.length_take]; omega)
   have hcx : wr.cell? (a.add k) = some (.string (bs x)) := (hnx.cell (p := a.add k) (by rw [add_block]; exact hb)).trans (hc k x hx)
   have htk : L.take k ++ [x] = L.take (k + 1) := by rw [List.take_add_one, hx]; rfl
   gi_wp2
   refine hR.mono ?_
   rintro e W3 (⟨rfl, hJ3, hk3⟩ | ⟨rfl, hJx3⟩)
   ·gi_wp2
    go_roundw
    case rel => exact ⟨k + 1, by omega, by simp, by rw [← htk]; exact hJ3, hnx.trans hk3⟩
    case measure => simp [intOf]; omega
   ·gi_wp2
    refine bodyPost_ret (results_none rfl _ _ _) rfl ?_
    exact ⟨⟨_, rfl⟩, .inr ⟨_, by rw [htk]; exact List.take_prefix _ _, hJx3⟩⟩
  ·obtain rfl : k = len := by omega
   gi_wp2
   go_end0
   exact ⟨⟨_, rfl⟩, .inl ⟨_, List.take_of_length_le (by omega), hJs⟩⟩
set_option maxRecDepth 100000 in
set_option maxHeartbeats 1000000 in
theorem values1_none (F : Fence) (n : Nat) (h7 : F.fn 133) (hro : F.round = none) (l Bs : Nat) (a : Option Addr) (cap : Nat) (J : List B → World → Prop) (W : World) (hBs : W.cell? ⟨Bs, 0, none⟩ = some (.slice a 0 cap)) (h0 : J [] W) :
  CallsIn F n Tryz.prog 133 #[.func (.yield l) #[] #[], .pointer (some ⟨Bs, 0, none⟩)] W fun e W' => (∃ v, e = .returned v) ∧ J [] W' := by
 refine callsIn_of_wp Tryz.func133 rfl h7 ?_ hro
 simp only [Tryz.ntmps133, List.size_toArray, List.length_cons, List.length_nil, Nat.reduceAdd, Nat.reduceSub, Array.replicate_succ, Array.replicate_zero, List.push_toArray, List.append_toArray, List.nil_append, List.cons_append]
 gi_wp2
 gi_loopw [7] (fun i wr => i = .int .i64 0 ∧ J [] wr) (fun _ _ => 0)
 case atStart => exact ⟨rfl, h0⟩
 case round =>
  obtain ⟨rfl, hJs⟩ := hrel
  gi_wp2
  go_end0
  exact ⟨⟨_, rfl⟩, hJs⟩
theorem values_stops (F : Fence) (n : Nat) (h7 : F.fn 133) (hro : F.round = none) (hn : 1 ≤ n) (Bs n₀ : Nat) (l : Sl) (L : List B) (hreach : L.length * 8 ≤ 140737488351232) (w : World) (hBs : Bs < w.heap.size) (hn₀ : n₀ ≤ w.heap.size)
  (hc : w.cell? ⟨Bs, 0, none⟩ = some (.slice l.a l.n l.c)) (hR : RdS w l (L.map bs)) (hlow : ∀ (j : Nat) a, j < L.length → l.a = some a → a.block < n₀) :
  SeqStopsK F n Tryz.prog 133 #[.pointer (some ⟨Bs, 0, none⟩)] (fun x : B => #[Value.string (bs x)]) (Below n₀) (fun ys => ys = L) (fun pre => pre <+: L) L.length w := fun r J Jx W hW _ _ hY h0 => by
 have hc' := (hW.cell (p := ⟨Bs, 0, none⟩) hBs).trans hc
 have hnn := hR.1
 rw [List.length_map] at hnn
 cases L with
 | nil =>
  rw [hnn] at hc'
  exact (values1_none F n h7 hro r Bs l.a l.c J W hc' h0).mono fun e W' ⟨he, hj⟩ => ⟨he, .inl ⟨_, rfl, hj⟩⟩
 | cons x0 L0 =>
  obtain ⟨a, ha, _⟩ := hR.2 0 (bs x0) rfl
  rw [ha, hnn] at hc'
  refine (values1_in F n h7 hro hn r Bs n₀ a (x0 :: L0).length l.c (x0 :: L0) rfl hreach (hlow 0 a (by simp) ha) J Jx hY W hc' (fun j x hx => ?_) h0).mono ?_
  ·obtain ⟨a', ha', hcell⟩ := hR.2 j (bs x) (by rw [List.getElem?_map, hx]; rfl)
   rw [ha] at ha'
   cases ha'
   rw [Nat.mul_one] at hcell
   exact (hW.cell (p := a.add j) (by rw [add_block]; exact Nat.lt_of_lt_of_le (hlow 0 a (by simp) ha) hn₀)).trans hcell
  ·rintro e W' ⟨he, ⟨ys, rfl, hj⟩ | ⟨pre, hp, hj⟩⟩
   ·exact ⟨he, .inl ⟨_, rfl, hj⟩⟩
   ·exact ⟨he, .inr ⟨_, hp, hj⟩⟩
theorem info9T : (Tryz.prog.info? 9).map (fun i => (i.zero, i.size, i.bytes)) = some (some (.string .empty), 1, 16) := by kernel_rfl
set_option maxRecDepth 100000 in
set_option maxHeartbeats 2000000 in
theorem appendSeq_in (F : Fence) (n : Nat) (h3 : F.fn 165) (h5 : F.fn 133) (hro : F.round = none) (hn : 3 ≤ n) (Bs : Nat) (l : Sl) (L : List B) (hbytes : L.length * 16 ≤ 140737488351232) (w : World) (hBs : Bs < w.heap.size)
  (hcs : w.cell? ⟨Bs, 0, none⟩ = some (.slice l.a l.n l.c)) (hR : RdS w l (L.map bs)) :
  CallsIn F n Tryz.prog 165 #[.slice none 0 0, .func (.func 133) #[] #[.pointer (some ⟨Bs, 0, none⟩)]] w fun e W' => ∃ v, e = .returned v ∧ W'.ownsRow w.heap.size 9 1 v L.length (L.map fun x => Value.string (bs x)) ∧ Below w.heap.size w W' := by
 have h1 : 1 ≤ n := by omega
 obtain ⟨i0, hi, hz0, hz1, hz2⟩ := info_parts info9T
 have hlow : ∀ (j : Nat) a, j < L.length → l.a = some a → a.block < w.heap.size := fun j a hj ha => by
  obtain ⟨a', ha', hcell⟩ := hR.2 j (bs L[j]) (by rw [List.getElem?_map, List.getElem?_eq_getElem hj]; rfl)
  rw [ha] at ha'
  cases ha'
  have := World.block_lt_of_cell? w _ hcell
  rwa [add_block] at this
 refine callsIn_of_wp_marks Tryz.func165 rfl h3 ?_ hro
 simp only [Tryz.ntmps165, List.size_toArray, List.length_cons, List.length_nil, Nat.reduceAdd, Nat.reduceSub, Array.replicate_succ, Array.replicate_zero, List.push_toArray, List.append_toArray, List.nil_append, List.cons_append]
 gi_wp2
 have bO := Boxed.new w 22 (.slice none 0 0)
 have hB0 : Below w.heap.size w (w.alloc (.cells #[.slice none 0 0] 22)) := (Below.refl _ w).alloc (Nat.le_refl _) _
 refine wpIn_rangeFunc_ownG hro h1 (gf := 133) (lb := #[.pointer (some ⟨Bs, 0, none⟩)]) rfl h5 (enters_of Tryz.func133 (by kernel_rfl) rfl)
  (values_stops F (n - 1) h5 hro (by omega) Bs w.heap.size l L (by omega) _ (by simp; omega) (by simp) ((hB0.cell (p := ⟨Bs, 0, none⟩) hBs).trans hcs) (hR.fr (fr_alloc w _)) hlow) belowK_t (belowK_b (by simp)) (Below.refl _ _) (fun _ => rfl)
  (fun pre W => (∃ v, Boxed W w.heap.size 22 v ∧ W.ownsRow w.heap.size 9 1 v pre.length (pre.map fun x => Value.string (bs x)) ∧ True) ∧ Below w.heap.size w W)
  (fun _ _ _ => False)
  (OwnFrom.and (Own.from (holdsRow_own w.heap.size w.heap.size 22 9 1 (fun pre : List B => pre.length) (fun pre => pre.map fun x => Value.string (bs x)) (fun _ _ => True)) _) (ownFrom_below (Nat.le_refl _) (by simp)))
  (fun _ _ _ _ _ hs _ _ => hs)
  ⟨⟨_, bO, World.ownsRow_nil _ _ _ _, trivial⟩, hB0⟩
  (fun x => { tmps := #[.slice none 0 0, .func (.func 133) #[] #[.pointer (some ⟨Bs, 0, none⟩)], .pointer (some ⟨w.heap.size, 0, none⟩), undef, .slice none 0 0, .string (bs x), .func (.func 133) #[] #[.pointer (some ⟨Bs, 0, none⟩)], .string (bs x), undef, undef, undef, undef, undef], defers := [] }) ?assign ?body ?done ?stop
 case assign =>
  intro l x W K hK
  gi_wp2
  exact hK
 case body =>
  rintro l pre x W ⟨⟨v, hv, hrow, _⟩, hB⟩ hlt
  have hc := hv.cell
  gi_wp2_with (gi_at_builtin; refine wpListIn_append_own _ rfl _ _ 22 rfl w.heap.size 9 i0 (.string .empty) 1 16 uStrs' hi hz0 hz1 hz2 rfl (by decide) _ _ _ rfl (hrow.alloc _) ⟨W.heap.size, 0, none⟩ 1 1 [.string (bs x)] rfl rfl (cell_one_new _ _ _) (by simp [Value.oneCell']) (by unfold maxLen; omega) (by omega) (by have := hB.size; simp; omega) ?_; intro v' w1 hown' hgrow _; obtain ⟨g', cap', rfl⟩ := ownsRow_succ hown'; obtain ⟨hv1, hv2, hr2, hk2, hb2⟩ := hv.appended (by decide) hrow hB.size (Nat.le_refl _) hown' hgrow; have hc1 := hv1.cell; have hf1 := hv1.frozen)
  exact ⟨hk2.from _, hb2, ⟨_, hv2, by simpa using hr2, trivial⟩, hB.trans hb2⟩
 case done =>
  rintro D ys W hD rfl ⟨⟨v, hv, hrow, _⟩, hB⟩ hK
  have hc := hv.cell
  gi_wp2
  refine ⟨by simp, .inl ⟨_, _, rfl, run_takeDeferred hK, ?_⟩⟩
  exact ⟨_, results_tmp rfl _ _ _, v, rfl, ownsRow_putObj hrow _ hK rfl, hB.trans (belowK_b (w := w) (Nat.le_refl _) W D _ _ (by simp at hD; omega) hK rfl rfl)⟩
 case stop =>
  rintro D c pre W _ _ h _
  exact h.elim
end Go.Proofs.YtngfnokbdcjoeaaGreatDoor
end
section

end
