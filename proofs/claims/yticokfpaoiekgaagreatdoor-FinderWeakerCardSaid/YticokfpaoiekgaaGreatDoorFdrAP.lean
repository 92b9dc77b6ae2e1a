/- The law behind: one part of its proof (joined by program out of my own texts). No condition. -/
import Derived.Test.YticokfpaoiekgaaGreatDoorFdrAO
section
namespace Go.Lift
open Go.Shp
section
variable {R : Ending → World → Prop} {w : World}
theorem str_ldA {s : Sl} {l : List (List UInt8)} {i : Nat} {x : List UInt8} {K : Addr → ByteArray → G} (h : RdS w s (l.map bs)) (hx : l[i]? = some x) (hk : ∀ a, w.cell? a = some (.string (bs x)) → K a (bs x) R w) : idxG s.a s.n (i : Int) 1 (fun (a : Addr) => ldG .str a (K a)) R w := by
 have hi := (List.getElem?_eq_some_iff.1 hx).1
 obtain ⟨y, a, hy, ha, rd, hix⟩ := h.at (k := i) (by simpa using hi)
 rw [List.getElem?_map, hx] at hy
 cases hy
 rw [ha]
 exact hix (ld_ok (c := .str) (rd _ (Fr.refl _ _)) (hk _ (rd _ (Fr.refl _ _))))
theorem part_ld0 {w0 : World} {l : List Shape} {a : Option Addr} {len i : Nat} {s : Shape} {K : Int → ByteArray → ByteArray → Sl → Sl → G} (h : ShL w0 a 0 l) (F : Fr noB w0 w) (hs : l[i]? = some s) (hl : len = l.length)
  (hk : ∀ k o n ns ps, ShV w0 k o n ns ps s → K k o n ns ps R w) :
  idxG a len (i : Int) 5 (fun (x : Addr) => ldG (.int .i64) (x.add 0) (fun (k : Int) => ldG .str (x.add 1) (fun (o : ByteArray) => ldG .str (x.add 2) (fun (n : ByteArray) => ldG .slice (x.add 3) (fun (ns : Sl) => ldG .slice (x.add 4) (fun (ps : Sl) => K k o n ns ps)))))) R w := by
 obtain ⟨g, off, k, o, n, ns, ps, rfl, c0, c1, c2, c3, c4, hv⟩ := h.at hs
 have hi := (List.getElem?_eq_some_iff.1 hs).1
 rw [Nat.zero_add] at c0 c1 c2 c3 c4
 refine idxB_ok (n := len) (i := i) (by omega) ?_
 simp only [Addr.add_lit, Nat.add_zero]
 exact ld_ok (c := .int .i64) (F.cell c0 fun h => h) (ld_ok (c := .str) (F.cell c1 fun h => h) (ld_ok (c := .str) (F.cell c2 fun h => h) (ld_ok (c := .slice) (x := ns) (F.cell c3 fun h => h) (ld_ok (c := .slice) (x := ps) (F.cell c4 fun h => h) (hk k o n ns ps hv)))))
theorem st_fr {a b c : World} {m : Nat} (h : Fr (oneB m) a b) (k : Fr (oneB m) b c) : Fr (oneB m) a c := h.then k fun _ _ h => h
theorem fill_ok {m : Nat} {t : TypeId} {l : List Value} {v0 v1 v2 v3 v4 : Value} {k : G} (B : Blk w m t l) (hl : l.length = 5) (h0 : v0.oneCell' = true) (h1 : v1.oneCell' = true) (h2 : v2.oneCell' = true) (h3 : v3.oneCell' = true) (h4 : v4.oneCell' = true)
  (hk : ∀ w', Blk w' m t [v0, v1, v2, v3, v4] → Fr (oneB m) w w' → k R w') : stG ⟨m, 0, none⟩ v0 (stG ⟨m, 1, none⟩ v1 (stG ⟨m, 2, none⟩ v2 (stG ⟨m, 3, none⟩ v3 (stG ⟨m, 4, none⟩ v4 k)))) R w := by
 match l, hl with
 | [a, b, c, d, e], _ =>
  refine B.st h0 (by simp) fun w1 B1 F1 => B1.st h1 (by simp) fun w2 B2 F2 => B2.st h2 (by simp) fun w3 B3 F3 => B3.st h3 (by simp) fun w4 B4 F4 => B4.st h4 (by simp) fun w5 B5 F5 => ?_
  exact hk _ B5 (st_fr (st_fr (st_fr (st_fr F1 F2) F3) F4) F5)
theorem Fr.fill {a b c : World} {m : Nat} (h : Fr noB a b) (hm : a.heap.size ≤ m) (k : Fr (oneB m) b c) : Fr noB a c := h.then k fun x hx h => by unfold oneB at h; omega
theorem Blk.ldV {m : Nat} {t : TypeId} {k : Int} {o n : ByteArray} {ns ps : Sl} (B : Blk w m t (shCells k o n ns ps)) {K : Int → ByteArray → ByteArray → Sl → Sl → G} (h : K k o n ns ps R w) :
  ldG (.int .i64) ⟨m, 0, none⟩ (fun (k : Int) => ldG .str ⟨m, 1, none⟩ (fun (o : ByteArray) => ldG .str ⟨m, 2, none⟩ (fun (n : ByteArray) => ldG .slice ⟨m, 3, none⟩ (fun (ns : Sl) => ldG .slice ⟨m, 4, none⟩ (fun (ps : Sl) => K k o n ns ps))))) R w :=
 B.ld (c := .int .i64) (x := k) (o := 0) rfl (B.ld (c := .str) (x := o) (o := 1) rfl (B.ld (c := .str) (x := n) (o := 2) rfl (B.ldS (o := 3) rfl (B.ldS (o := 4) rfl h))))
theorem Blk.heldV {m : Nat} {t : TypeId} {k : Int} {o n : ByteArray} {ns ps : Sl} (B : Blk w m t (shCells k o n ns ps)) : Held w (⟨m, 0, none⟩, [.int .i64 k, .string o, .string n, .slice ns.a ns.n ns.c, .slice ps.a ps.n ps.c]) :=
 B.held fun j v hj => by rw [Nat.zero_add]; exact hj
end
end Go.Lift
namespace Go.Proofs.YticokfpaoiekgaaGreatDoor
open Go.Lift Go.Lex Go.Shp
section
variable {w : World}
def PartP (w0 w : World) (r : Option Shape) (e : Ending) (w' : World) : Prop := ∃ (k : Int) (o n : ByteArray) (ns ps : Sl), e = .returned (.tuple #[shArg k o n ns ps, .bool r.isSome]) ∧ Fr noB w w' ∧ ∀ q, r = some q → ShV w0 k o n ns ps q
theorem find_le {ns : List B} {ps : List Shape} {x : B} (h : ∀ i : Nat, ns[i]? ≠ some x) : find ns ps x = none := by
 induction ns generalizing ps with
 | nil => cases ps <;> rfl
 | cons y r ih =>
  cases ps with
  | nil => rfl
  | cons p ps =>
   unfold find
   rw [if_neg (fun e => h 0 (by rw [e]; rfl))]
   exact ih fun i => by simpa using h (i + 1)
theorem find_first : ∀ {ns : List B} {ps : List Shape} {x : B} {i : Nat} {q : Shape}, (∀ j, j < i → ns[j]? ≠ some x) → ns[i]? = some x → ps[i]? = some q → find ns ps x = some q
 | [], _, _, _, _, _, h, _ => by simp at h
 | _ :: _, [], _, _, _, _, _, h => by simp at h
 | y :: ns, p :: ps, x, 0, q, _, h1, h2 => by
  simp only [List.getElem?_cons_zero, Option.some.injEq] at h1 h2
  unfold find
  rw [if_pos h1, h2]
 | y :: ns, p :: ps, x, i + 1, q, h, h1, h2 => by
  unfold find
  rw [if_neg (fun e => h 0 (by omega) (by rw [e]; rfl))]
  exact find_first (i := i) (fun j hj => by simpa using h (j + 1) (by omega)) (by simpa using h1) (by simpa using h2)
def PartC (f : FuncId) : Prop := ∀ {w0 w : World} {k : Int} {o n : ByteArray} {ns ps : Sl} {s : Shape} (x : ByteArray), ShV w0 k o n ns ps s → Fr noB w0 w → s.names.length = s.parts.length → Calls Tryz.prog f #[shArg k o n ns ps, .string x] w (PartP w0 w (find s.names s.parts (bl x)))
theorem rpart_ok : PartC 78 := by
 intro w0 w k o n ns ps s x hv F0 hlen
 obtain ⟨_, _, _, ⟨hns, hnl, hpn, hpl, _⟩, hps⟩ := hv.parts
 have hnn := hns.1
 rw [List.length_map] at hnn
 apply c78
 unfold t78 wrZ ldSZ ldLZ ld5mZ ld5xZ st5Z nw5Z nz5Z jn0Z lpIZ ixZ
 refine new_ok fun w1 m6 hm6 hs1 B1 F1 => new_ok fun w2 m7 hm7 hs2 C2 F2 => ?_
 have B2 := B1.fr F2 (fun h => h)
 change Blk w2 m6 _ (shCells k o n ns ps) at B2
 have F12 := F1.tr F2
 have h67 : m6 ≠ m7 := by omega
 have hw7 : w.heap.size ≤ m7 := by omega
 refine join0_ok (fun w' => find s.names s.parts (bl x) = none ∧ Fr noB w2 w') (fun kend hkend => ?_) fun w3 ⟨hf, F3⟩ => ?_
 ·refine countL_ok s.names.length (by omega) (fun i w3 => (∀ j, j < i → s.names[j]? ≠ some (bl x)) ∧ Fr noB w2 w3) (fun rec i w3 hi hI hrec => ?_) ⟨fun j h => by omega, Fr.refl _ _⟩
  obtain ⟨hdone, F3⟩ := hI
  have B3 := B2.fr F3 (fun h => h)
  refine B3.ldS (o := 3) rfl (ite_ok (fun hlt => ?_) fun hge => hkend _ ⟨find_le fun j hj => ?_, F3⟩)
  ·have hlt : (i : Int) < (ns.n : Int) := of_decide_eq_true hlt
   obtain ⟨y, hy⟩ : ∃ y, s.names[i]? = some y := ⟨_, List.getElem?_eq_getElem (by omega)⟩
   obtain ⟨q, hq⟩ : ∃ q, s.parts[i]? = some q := ⟨_, List.getElem?_eq_getElem (by omega)⟩
   refine join_in (vs := []) (B3.ldS (o := 3) rfl (str_ld (hns.fr (F0.tr (F12.tr F3))) hy ?_))
   rw [eq_bl, bl_bs]
   refine ite_ok (fun he => ?_) fun hne => hrec (by omega) _ ⟨fun j hj => ?_, F3⟩
   ·have he : y = bl x := by simpa using he
    refine B3.ldS (o := 4) rfl (part_ld0 hps (F0.tr (F12.tr F3)) hq hpn fun k1 o1 n1 ns1 ps1 hv1 => ?_)
    refine fill_ok (C2.fr F3 (fun h => h)) rfl rfl rfl rfl rfl rfl fun w4 C4 F4 => ?_
    change Blk w4 m7 _ (shCells k1 o1 n1 ns1 ps1) at C4
    have F24 : Fr noB w w4 := (F12.tr F3).fill hw7 F4
    refine C4.ldV ⟨k1, o1, n1, ns1, ps1, ?_, F24, fun r hr => ?_⟩
    ·rw [find_first hdone (by rw [hy, he]) hq]
     rfl
    ·rw [find_first hdone (by rw [hy, he]) hq] at hr
     cases hr
     exact hv1
   ·have hne : y ≠ bl x := by simpa using hne
    rcases Nat.lt_succ_iff_lt_or_eq.1 hj with hj | rfl
    ·exact hdone j hj
    ·rw [hy]
     intro e
     exact hne (Option.some.inj e)
  ·have hge : ¬ (i : Int) < (ns.n : Int) := of_decide_eq_false hge
   have := (List.getElem?_eq_some_iff.1 hj).1
   exact hdone j (by omega) hj
 ·rw [hf]
  refine fill_ok (C2.fr F3 (fun h => h)) rfl rfl rfl rfl rfl rfl fun w4 C4 F4 => ?_
  change Blk w4 m7 _ (shCells 0 (ByteArray.mk #[]) (ByteArray.mk #[]) ⟨none, 0, 0⟩ ⟨none, 0, 0⟩) at C4
  exact C4.ldV ⟨0, ByteArray.mk #[], ByteArray.mk #[], ⟨none, 0, 0⟩, ⟨none, 0, 0⟩, rfl, (F12.tr F3).fill hw7 F4, fun q hq => by cases hq⟩
theorem callPart_ok {w0 : World} {R : Ending → World → Prop} {f : FuncId} {args : Array Value} {r : Option Shape} (hc : Calls Tryz.prog f args w (PartP w0 w r)) {K : Int → ByteArray → ByteArray → Sl → Sl → Bool → G}
  (h : ∀ k o n ns ps w', Fr noB w w' → (∀ q, r = some q → ShV w0 k o n ns ps q) → K k o n ns ps r.isSome R w') : callG Tryz.prog f args [.agg [.int .i64, .str, .str, .slice, .slice], .one .bool] K R w :=
 call_ok hc fun _ w' ⟨k, o, n, ns, ps, he, F, hv⟩ => ⟨((k, o, n, ns, ps, ()), ((r.isSome, ()), ())), he, h k o n ns ps w' F hv⟩
end
end Go.Proofs.YticokfpaoiekgaaGreatDoor
end
section
namespace Go.Shp
open Go.Lex
theorem belowF_off {d : Nat} {kA kB : Int} {oA nA oB nB : B} {nsA nsB : List B} {psA psB : List Shape} (fa : fits (.mk kA oA nA nsA psA) = true) (fb : fits (.mk kB oB nB nsB psB) = true) (h : kA ≠ kB ∨ oA ≠ oB ∨ nA ≠ nB) : belowF (d + 1) (.mk kA oA nA nsA psA) (.mk kB oB nB nsB psB) = false := by
 rw [belowF]
 by_cases hk : kA = kB
 ·subst hk
  rw [if_neg (by simp)]
  by_cases h9 : kA = 9 ∨ kA = 10
  ·rw [if_pos h9]
   rcases h with h | h | h
   ·exact absurd rfl h
   ·rw [beq_eq_false_iff_ne.2 h]; rfl
   ·rw [beq_eq_false_iff_ne.2 h, Bool.and_false]
  ·have ha := fits_bare fa (by omega) (by omega)
   have hb := fits_bare fb (by omega) (by omega)
   rw [ha.1, ha.2, hb.1, hb.2] at h
   simp at h
 ·rw [if_pos hk]
theorem belowF_on {d : Nat} {k : Int} {o n : B} {nsA nsB : List B} {psA psB : List Shape} (fa : fits (.mk k o n nsA psA) = true) (fb : fits (.mk k o n nsB psB) = true) : belowF (d + 1) (.mk k o n nsA psA) (.mk k o n nsB psB) =
  if k = 6 then withinF (fun x y => belowF d y x) nsB psB nsA psA else if k = 7 then withinF (belowF d) nsA psA nsB psB else funAll (belowF d) psA psB := by
 rw [belowF, if_neg (by simp)]
 by_cases h9 : k = 9 ∨ k = 10
 ·rw [if_pos h9, if_neg (by omega), if_neg (by omega), (fits_leaf fa (by omega)).1, (fits_leaf fb (by omega)).1]
  simp [funAll]
 ·rw [if_neg h9]
end Go.Shp
namespace Go.Proofs.YticokfpaoiekgaaGreatDoor
open Go.Lift Go.Lex Go.Shp
set_option maxHeartbeats 2000000 in
theorem runder_ok : ∀ (d : Nat) (s s' : Shape), deep s ≤ d → deep s' ≤ d → allFit s = true → allFit s' = true → ∀ {w : World} {k : Int} {o n : ByteArray} {ns ps : Sl} {k2 : Int} {o2 n2 : ByteArray} {ns2 ps2 : Sl}, ShV w k o n ns ps s → ShV w k2 o2 n2 ns2 ps2 s' →
  AnsB 47 #[shArg k o n ns ps, shArg k2 o2 n2 ns2 ps2] w (belowF d s s')
 | 0, s, _, h, _, _, _, _, _, _, _, _, _, _, _, _, _, _, _, _ => by have := deep_pos s; omega
 | d + 1, .mk kA oA nA nsA psA, .mk kB oB nB nsB psB, hda, hdb, hfa0, hfb0, w, k, o, n, ns, ps, k2, o2, n2, ns2, ps2, hv, hv2 => by
  rw [deep_mk] at hda hdb
  obtain ⟨fa, hfa⟩ := allFit_parts hfa0
  obtain ⟨fb, hfb⟩ := allFit_parts hfb0
  obtain ⟨ek, eo, en, ⟨hns, hnl, hpn, hpl, _⟩, hps⟩ := hv.parts
  obtain ⟨ek2, eo2, en2, ⟨hns2, hnl2, hpn2, hpl2, _⟩, hps2⟩ := hv2.parts
  change k = kA at ek
  change bl o = oA at eo
  change bl n = nA at en
  change k2 = kB at ek2
  change bl o2 = oB at eo2
  change bl n2 = nB at en2
  change RdS w ns (nsA.map bs) at hns
  change RdS w ns2 (nsB.map bs) at hns2
  change nsA.length < 4611686018427387904 at hnl
  change nsB.length < 4611686018427387904 at hnl2
  change ps.n = psA.length at hpn
  change ps2.n = psB.length at hpn2
  change psA.length < 4611686018427387904 at hpl
  change ShL w ps.a 0 psA at hps
  change ShL w ps2.a 0 psB at hps2
  have hnn := hns.1
  have hnn2 := hns2.1
  rw [List.length_map] at hnn hnn2
  apply c47
  unfold t47 wrZ tvZ svZ shZ kfZ ldIZ ldSZ ldLZ ld5mZ ld5xZ st5Z nw5Z nz5Z caBZ ca5BZ jn0Z jnBZ lpIZ ixZ
  refine new_ok fun w1 m10 hm10 hs1 B1 F1 => new_ok fun w2 m11 hm11 hs2 C2 F2 => ?_
  have B2 := B1.fr F2 (fun h => h)
  change Blk w2 m10 _ (shCells k o n ns ps) at B2
  change Blk w2 m11 _ (shCells k2 o2 n2 ns2 ps2) at C2
  have F12 := F1.tr F2
  clear B1
  generalize hT : belowF (d + 1) (.mk kA oA nA nsA psA) (.mk kB oB nB nsB psB) = T
  refine join1_ok (c := .bool) (fun (b : Bool) w' => w' = w2 ∧ b = decide (kA ≠ kB ∨ oA ≠ oB ∨ nA ≠ nB)) (fun kj hkj => ?_) ?_
  ·refine B2.ld (c := .int .i64) (x := k) (o := 0) rfl (C2.ld (c := .int .i64) (x := k2) (o := 0) rfl (ite_ok (fun h1 => hkj _ _ ⟨rfl, ?_⟩) fun h1 => ?_))
   ·have h1 : kA ≠ kB := by rw [← ek, ← ek2]; simpa using h1
    exact (decide_eq_true (.inl h1)).symm
   have h1 : kA = kB := by rw [← ek, ← ek2]; simpa using h1
   refine B2.ld (c := .str) (x := o) (o := 1) rfl (C2.ld (c := .str) (x := o2) (o := 1) rfl ?_)
   rw [eq_bl, eo, eo2]
   refine ite_ok (fun h2 => hkj _ _ ⟨rfl, ?_⟩) fun h2 => ?_
   ·have h2 : oA ≠ oB := by simpa using h2
    exact (decide_eq_true (.inr (.inl h2))).symm
   have h2 : oA = oB := by simpa using h2
   refine B2.ld (c := .str) (x := n) (o := 2) rfl (C2.ld (c := .str) (x := n2) (o := 2) rfl (hkj _ _ ⟨rfl, ?_⟩))
   rw [eq_bl, en, en2, h1, h2]
   by_cases h3 : nA = nB <;> simp [h3]
  rintro b w' ⟨hw', rfl⟩
  replace hw' := hw'.symm
  subst hw'
  refine ite_ok (fun h => ?_) fun h => ?_
  ·have h : kA ≠ kB ∨ oA ≠ oB ∨ nA ≠ nB := of_decide_eq_true h
   exact ⟨by rw [← hT, belowF_off fa fb h], F12⟩
  have h : ¬ (kA ≠ kB ∨ oA ≠ oB ∨ nA ≠ nB) := of_decide_eq_false h
  obtain ⟨h1, h2, h3⟩ : kA = kB ∧ oA = oB ∧ nA = nB := by
   refine ⟨Classical.byContradiction fun e => h (.inl e), Classical.byContradiction fun e => h (.inr (.inl e)), Classical.byContradiction fun e => h (.inr (.inr e))⟩
  clear h
  rw [← h1, ← h2, ← h3] at fb hT
  rw [belowF_on fa fb] at hT
  replace hT := hT.symm
  refine B2.ld (c := .int .i64) (x := k) (o := 0) rfl (ite_ok (fun h6 => ?_) fun h6 => ?_)
  rotate_left
  have h6 : ¬ kA = 6 := by rw [← ek]; simpa using h6
  rw [if_neg h6] at hT
  refine B2.ld (c := .int .i64) (x := k) (o := 0) rfl (ite_ok (fun h7 => ?_) fun h7 => ?_)
  rotate_left
  have h7 : ¬ kA = 7 := by rw [← ek]; simpa using h7
  rw [if_neg h7] at hT
  ·refine B2.ldS (o := 4) rfl (C2.ldS (o := 4) rfl (ite_ok (fun hl => ⟨?_, F12⟩) fun hl => ?_))
   ·have hl : ((ps.n : Nat) : Int) ≠ (ps2.n : Nat) := by simpa using hl
    have : T = false := by
     rw [hT, Bool.eq_false_iff]
     intro h
     have := (funAll_iff.1 h).1
     omega
    rw [this]
   have hl : ((ps.n : Nat) : Int) = (ps2.n : Nat) := by simpa using hl
   refine join0_ok (fun w4 => T = true ∧ Fr noB w2 w4) (fun kend hkend => ?_) fun w4 ⟨h, G4⟩ => ⟨by rw [h], F12.tr G4⟩
   refine countL_ok psA.length (by omega) (fun i w4 => (∀ (j : Nat) (p q : Shape), j < i → psA[j]? = some p → psB[j]? = some q → if j + 1 = psA.length then belowF d p q = true else belowF d q p = true) ∧ Fr noB w2 w4) (fun rec i w4 hi hI hrec => ?_) ⟨fun j x p h => by omega, Fr.refl _ _⟩
   obtain ⟨hdone, G4⟩ := hI
   refine (B2.fr G4 (fun h => h)).ldS (o := 4) rfl (ite_ok (fun hlt => ?_) fun hge => hkend _ ⟨?_, G4⟩)
   ·have hlt : (i : Int) < (ps.n : Int) := of_decide_eq_true hlt
    obtain ⟨p, hp⟩ : ∃ p, psA[i]? = some p := ⟨_, List.getElem?_eq_getElem (by omega)⟩
    obtain ⟨q, hq⟩ : ∃ q, psB[i]? = some q := ⟨_, List.getElem?_eq_getElem (by omega)⟩
    have hpm := List.mem_of_getElem? hp
    have hqm := List.mem_of_getElem? hq
    have hdp := deep_mem hpm
    have hdq := deep_mem hqm
    have ew : IntKind.wrap .i64 (((ps.n : Nat) : Int) - 1) = ((ps.n : Nat) : Int) - 1 := wrap_ok (by omega) (by omega)
    have hbad : (if i + 1 = psA.length then belowF d p q else belowF d q p) = false → T = false := fun hb => by
     rw [hT, Bool.eq_false_iff]
     intro h
     have := (funAll_iff.1 h).2 i p q hp hq
     by_cases hl : i + 1 = psA.length
     ·rw [if_pos hl] at this hb
      rw [this] at hb
      cases hb
     ·rw [if_neg hl] at this hb
      rw [this] at hb
      cases hb
    refine join_in (vs := []) ?_
    refine join1_ok (c := .bool) (fun (b : Bool) w5 => b = (decide (i + 1 = psA.length) && !belowF d p q) ∧ Fr noB w2 w5) (fun kj hkj => drew_ok fun w5 F5 z5 => ?_) ?_
    ·have G5 := G4.tr F5
     refine (B2.fr G5 (fun h => h)).ldS (o := 4) rfl (ite_ok (fun he => ?_) fun he => hkj _ _ ⟨?_, G5⟩)
     ·have he : (i : Int) = IntKind.wrap .i64 (((ps.n : Nat) : Int) - 1) := by simpa using he
      rw [ew] at he
      refine (B2.fr G5 (fun h => h)).ldS (o := 4) rfl (part_ld (hps.fr (F12.tr G5)) hp hpn fun k1 o1 n1 ns1 ps1 hv1 => ?_)
      refine (C2.fr G5 (fun h => h)).ldS (o := 4) rfl (part_ld (hps2.fr (F12.tr G5)) hq hpn2 fun k3 o3 n3 ns3 ps3 hv3 => ?_)
      refine callB_ok (runder_ok d p q (by omega) (by omega) (hfa p hpm) (hfb q hqm) hv1 hv3) fun w6 F6 => ?_
      have G6 := G5.tr F6
      refine keep_cons ((C2.fr G6 (fun h => h)).held1 rfl) (keep_cons ((B2.fr G6 (fun h => h)).held1 rfl) (keep_cons ((B2.fr G6 (fun h => h)).held1 rfl) (keep_nil (hkj _ _ ⟨?_, G6⟩))))
      rw [decide_eq_true (by omega : i + 1 = psA.length), Bool.true_and]
     ·have he : ¬ (i : Int) = IntKind.wrap .i64 (((ps.n : Nat) : Int) - 1) := by simpa using he
      rw [ew] at he
      rw [decide_eq_false (by omega : ¬ i + 1 = psA.length), Bool.false_and]
    rintro b w5 ⟨rfl, G5⟩
    refine ite_ok (fun hb => ⟨?_, F12.tr G5⟩) fun hb1 => ?_
    ·rw [Bool.and_eq_true] at hb
     have h1 := of_decide_eq_true hb.1
     have h2 : belowF d p q = false := by simpa using hb.2
     rw [hbad (by rw [if_pos h1]; exact h2)]
    refine join1_ok (c := .bool) (fun (b : Bool) w6 => b = (!decide (i + 1 = psA.length) && !belowF d q p) ∧ Fr noB w2 w6) (fun kj hkj => drew_ok fun w6 F6 z6 => ?_) ?_
    ·have G6 := G5.tr F6
     refine (B2.fr G6 (fun h => h)).ldS (o := 4) rfl (ite_ok (fun he => ?_) fun he => hkj _ _ ⟨?_, G6⟩)
     ·have he : (i : Int) < IntKind.wrap .i64 (((ps.n : Nat) : Int) - 1) := of_decide_eq_true he
      rw [ew] at he
      refine (C2.fr G6 (fun h => h)).ldS (o := 4) rfl (part_ld (hps2.fr (F12.tr G6)) hq hpn2 fun k3 o3 n3 ns3 ps3 hv3 => ?_)
      refine (B2.fr G6 (fun h => h)).ldS (o := 4) rfl (part_ld (hps.fr (F12.tr G6)) hp hpn fun k1 o1 n1 ns1 ps1 hv1 => ?_)
      refine callB_ok (runder_ok d q p (by omega) (by omega) (hfb q hqm) (hfa p hpm) hv3 hv1) fun w7 F7 => ?_
      have G7 := G6.tr F7
      refine keep_cons ((B2.fr G7 (fun h => h)).held1 rfl) (keep_cons ((C2.fr G7 (fun h => h)).held1 rfl) (keep_cons ((B2.fr G7 (fun h => h)).held1 rfl) (keep_nil (hkj _ _ ⟨?_, G7⟩))))
      rw [decide_eq_false (by omega : ¬ i + 1 = psA.length), Bool.not_false, Bool.true_and]
     ·have he : ¬ (i : Int) < IntKind.wrap .i64 (((ps.n : Nat) : Int) - 1) := of_decide_eq_false he
      rw [ew] at he
      rw [decide_eq_true (by omega : i + 1 = psA.length), Bool.not_true, Bool.false_and]
    rintro b w6 ⟨rfl, G6⟩
    refine ite_ok (fun hb => ⟨?_, F12.tr G6⟩) fun hb2 => hrec (by omega) _ ⟨fun j p' q' hj hp' hq' => ?_, G6⟩
    ·rw [Bool.and_eq_true] at hb
     have h1 : ¬ i + 1 = psA.length := by simpa using hb.1
     have h2 : belowF d q p = false := by simpa using hb.2
     rw [hbad (by rw [if_neg h1]; exact h2)]
    ·rcases Nat.lt_succ_iff_lt_or_eq.1 hj with hj | rfl
     ·exact hdone j p' q' hj hp' hq'
     ·rw [hp] at hp'
      rw [hq] at hq'
      cases hp'
      cases hq'
      by_cases hl : j + 1 = psA.length
      ·rw [if_pos hl]
       rw [decide_eq_true hl, Bool.true_and] at hb1
       simpa using hb1
      ·rw [if_neg hl]
       rw [decide_eq_false hl, Bool.not_false, Bool.true_and] at hb2
       simpa using hb2
   ·have hge : ¬ (i : Int) < (ps.n : Int) := of_decide_eq_false hge
    rw [hT, funAll_iff]
    refine ⟨by omega, fun j p q hp hq => ?_⟩
    have := (List.getElem?_eq_some_iff.1 hp).1
    exact hdone j p q (by omega) hp hq
  ·have h6 : kA = 6 := by rw [← ek]; simpa using h6
   rw [if_pos h6] at hT
   obtain ⟨hla, hda2⟩ := fits_named fa (.inl h6)
   obtain ⟨hlb, hdb2⟩ := fits_named fb (.inl h6)
   refine join0_ok (fun w4 => withinF (fun x y => belowF d y x) nsB psB nsA psA = true ∧ Fr noB w2 w4) (fun kend hkend => ?_) fun w4 ⟨h, G4⟩ => ⟨by rw [hT, h], F12.tr G4⟩
   refine countL_ok nsB.length (by omega) (fun i w4 => (∀ (j : Nat) (x : B) (p : Shape), j < i → nsB[j]? = some x → psB[j]? = some p → ∃ q, find nsA psA x = some q ∧ belowF d q p = true) ∧ Fr noB w2 w4) (fun rec i w4 hi hI hrec => ?_) ⟨fun j x p h => by omega, Fr.refl _ _⟩
   obtain ⟨hdone, G4⟩ := hI
   refine (C2.fr G4 (fun h => h)).ldS (o := 3) rfl (ite_ok (fun hlt => ?_) fun hge => hkend _ ⟨withinF_iff.2 fun j x p hx hp => ?_, G4⟩)
   ·have hlt : (i : Int) < (ns2.n : Int) := of_decide_eq_true hlt
    obtain ⟨x, hx⟩ : ∃ x, nsB[i]? = some x := ⟨_, List.getElem?_eq_getElem (by omega)⟩
    obtain ⟨p, hp⟩ : ∃ p, psB[i]? = some p := ⟨_, List.getElem?_eq_getElem (by omega)⟩
    refine join_in (vs := []) (drew_ok fun w5 F5 z5 => ?_)
    have G5 := G4.tr F5
    have hc : ∀ w', Fr noB w w' → Calls Tryz.prog 78 _ w' (PartP w w' (find nsA psA (bl (bs x)))) := fun w' F => rpart_ok (bs x) hv F hla
    rw [bl_bs] at hc
    generalize hf : find nsA psA x = r at hc
    refine (B2.fr G5 (fun h => h)).ldV ((C2.fr G5 (fun h => h)).ldS (o := 3) rfl (str_ldA (hns2.fr (F12.tr G5)) hx fun a ha => both_ok ?_ ?_))
    ·refine callPart_ok (hc w5 (F12.tr G5)) fun k1 o1 n1 ns1 ps1 w6 F6 hr => ?_
     have G6 := G5.tr F6
     refine keep_cons ((C2.fr G6 (fun h => h)).held1 rfl) (keep_nil (new_ok fun w7 m hm hs7 M7 F7 => ?_))
     have G7 := G6.tr F7
     have hm2 : w2.heap.size ≤ m := by have := G6.size; omega
     refine keep_cons (held_one ((F6.tr F7).cell ha (fun h => h))) (keep_cons ((C2.fr G7 (fun h => h)).held1 rfl) (keep_cons (B2.fr G7 (fun h => h)).heldV (keep_nil ?_)))
     refine fill_ok M7 rfl rfl rfl rfl rfl rfl fun w8 M8 F8 => ?_
     change Blk w8 m _ (shCells k1 o1 n1 ns1 ps1) at M8
     have G8 := G7.fill hm2 F8
     refine join1_ok (c := .bool) (fun (b : Bool) w9 => b = !(r.any (fun q => belowF d q p)) ∧ Fr noB w2 w9) (fun kj hkj => drew_ok fun w9 F9 z9 => ?_) ?_
     ·have G9 := G8.tr F9
      cases r with
      | none => exact ite_yes rfl (hkj _ _ ⟨rfl, G9⟩)
      | some q =>
       have hq := find_mem hf
       have hd1 := deep_mem hq
       refine ite_no rfl ?_
       refine (M8.fr F9 (fun h => h)).ldV ((C2.fr G9 (fun h => h)).ldS (o := 4) rfl (part_ld (hps2.fr (F12.tr G9)) hp hpn2 fun k3 o3 n3 ns3 ps3 hv3 => ?_))
       refine callB_ok (runder_ok d q p (by omega) (by have := deep_mem (List.mem_of_getElem? hp); omega) (hfa q hq) (hfb p (List.mem_of_getElem? hp)) ((hr q rfl).fr (F12.tr G9)) hv3) fun w10 F10 => keep_cons ((C2.fr (G9.tr F10) (fun h => h)).held1 rfl) (keep_nil (hkj _ _ ⟨rfl, G9.tr F10⟩))
     rintro b w9 ⟨rfl, G9⟩
     refine ite_ok (fun hb => ⟨?_, F12.tr G9⟩) fun hb => hrec (by omega) _ ⟨fun j x' p' hj hx' hp' => ?_, G9⟩
     ·have hb : r.any (fun q => belowF d q p) = false := by simpa using hb
      refine congrArg (fun b => Ending.returned (.bool b)) (Eq.symm ?_)
      rw [hT, Bool.eq_false_iff]
      intro h
      obtain ⟨q, h1, h2⟩ := withinF_iff.1 h i x p hx hp
      rw [hf] at h1
      rw [h1] at hb
      change belowF d q p = false at hb
      rw [hb] at h2
      cases h2
     ·have hb : r.any (fun q => belowF d q p) = true := by simpa using hb
      rcases Nat.lt_succ_iff_lt_or_eq.1 hj with hj | rfl
      ·exact hdone j x' p' hj hx' hp'
      ·rw [hx] at hx'
       rw [hp] at hp'
       cases hx'
       cases hp'
       cases r with
       | none => cases hb
       | some q => exact ⟨q, hf, hb⟩
    ·refine new_ok fun w6 m hm hs7 M6 F6 => ?_
     have G6 := G5.tr F6
     have hm2 : w2.heap.size ≤ m := by have := G5.size; omega
     refine keep_cons (held_one (F6.cell ha (fun h => h))) (keep_cons ((C2.fr G6 (fun h => h)).held1 rfl) (keep_cons (B2.fr G6 (fun h => h)).heldV (keep_nil ?_)))
     refine callPart_ok (hc w6 (F12.tr G6)) fun k1 o1 n1 ns1 ps1 w7 F7 hr => ?_
     have G7 := G6.tr F7
     refine keep_cons ((C2.fr G7 (fun h => h)).held1 rfl) (keep_nil ?_)
     refine fill_ok (M6.fr F7 (fun h => h)) rfl rfl rfl rfl rfl rfl fun w8 M8 F8 => ?_
     change Blk w8 m _ (shCells k1 o1 n1 ns1 ps1) at M8
     have G8 := G7.fill hm2 F8
     refine join1_ok (c := .bool) (fun (b : Bool) w9 => b = !(r.any (fun q => belowF d q p)) ∧ Fr noB w2 w9) (fun kj hkj => drew_ok fun w9 F9 z9 => ?_) ?_
     ·have G9 := G8.tr F9
      cases r with
      | none => exact ite_yes rfl (hkj _ _ ⟨rfl, G9⟩)
      | some q =>
       have hq := find_mem hf
       have hd1 := deep_mem hq
       refine ite_no rfl ?_
       refine (M8.fr F9 (fun h => h)).ldV ((C2.fr G9 (fun h => h)).ldS (o := 4) rfl (part_ld (hps2.fr (F12.tr G9)) hp hpn2 fun k3 o3 n3 ns3 ps3 hv3 => ?_))
       refine callB_ok (runder_ok d q p (by omega) (by have := deep_mem (List.mem_of_getElem? hp); omega) (hfa q hq) (hfb p (List.mem_of_getElem? hp)) ((hr q rfl).fr (F12.tr G9)) hv3) fun w10 F10 => keep_cons ((C2.fr (G9.tr F10) (fun h => h)).held1 rfl) (keep_nil (hkj _ _ ⟨rfl, G9.tr F10⟩))
     rintro b w9 ⟨rfl, G9⟩
     refine ite_ok (fun hb => ⟨?_, F12.tr G9⟩) fun hb => hrec (by omega) _ ⟨fun j x' p' hj hx' hp' => ?_, G9⟩
     ·have hb : r.any (fun q => belowF d q p) = false := by simpa using hb
      refine congrArg (fun b => Ending.returned (.bool b)) (Eq.symm ?_)
      rw [hT, Bool.eq_false_iff]
      intro h
      obtain ⟨q, h1, h2⟩ := withinF_iff.1 h i x p hx hp
      rw [hf] at h1
      rw [h1] at hb
      change belowF d q p = false at hb
      rw [hb] at h2
      cases h2
     ·have hb : r.any (fun q => belowF d q p) = true := by simpa using hb
      rcases Nat.lt_succ_iff_lt_or_eq.1 hj with hj | rfl
      ·exact hdone j x' p' hj hx' hp'
      ·rw [hx] at hx'
       rw [hp] at hp'
       cases hx'
       cases hp'
       cases r with
       | none => cases hb
       | some q => exact ⟨q, hf, hb⟩
   ·have hge : ¬ (i : Int) < (ns2.n : Int) := of_decide_eq_false hge
    have := (List.getElem?_eq_some_iff.1 hx).1
    exact hdone j x p (by omega) hx hp
  ·have h7 : kA = 7 := by rw [← ek]; simpa using h7
   rw [if_pos h7] at hT
   obtain ⟨hla, hda2⟩ := fits_named fa (.inr h7)
   obtain ⟨hlb, hdb2⟩ := fits_named fb (.inr h7)
   refine join0_ok (fun w4 => withinF (belowF d) nsA psA nsB psB = true ∧ Fr noB w2 w4) (fun kend hkend => ?_) fun w4 ⟨h, G4⟩ => ⟨by rw [hT, h], F12.tr G4⟩
   refine countL_ok nsA.length (by omega) (fun i w4 => (∀ (j : Nat) (x : B) (p : Shape), j < i → nsA[j]? = some x → psA[j]? = some p → ∃ q, find nsB psB x = some q ∧ belowF d p q = true) ∧ Fr noB w2 w4) (fun rec i w4 hi hI hrec => ?_) ⟨fun j x p h => by omega, Fr.refl _ _⟩
   obtain ⟨hdone, G4⟩ := hI
   refine (B2.fr G4 (fun h => h)).ldS (o := 3) rfl (ite_ok (fun hlt => ?_) fun hge => hkend _ ⟨withinF_iff.2 fun j x p hx hp => ?_, G4⟩)
   ·have hlt : (i : Int) < (ns.n : Int) := of_decide_eq_true hlt
    obtain ⟨x, hx⟩ : ∃ x, nsA[i]? = some x := ⟨_, List.getElem?_eq_getElem (by omega)⟩
    obtain ⟨p, hp⟩ : ∃ p, psA[i]? = some p := ⟨_, List.getElem?_eq_getElem (by omega)⟩
    refine join_in (vs := []) (drew_ok fun w5 F5 z5 => ?_)
    have G5 := G4.tr F5
    have hc : ∀ w', Fr noB w w' → Calls Tryz.prog 78 _ w' (PartP w w' (find nsB psB (bl (bs x)))) := fun w' F => rpart_ok (bs x) hv2 F hlb
    rw [bl_bs] at hc
    generalize hf : find nsB psB x = r at hc
    refine (C2.fr G5 (fun h => h)).ldV ((B2.fr G5 (fun h => h)).ldS (o := 3) rfl (str_ldA (hns.fr (F12.tr G5)) hx fun a ha => both_ok ?_ ?_))
    ·refine callPart_ok (hc w5 (F12.tr G5)) fun k1 o1 n1 ns1 ps1 w6 F6 hr => ?_
     have G6 := G5.tr F6
     refine keep_cons ((B2.fr G6 (fun h => h)).held1 rfl) (keep_nil (new_ok fun w7 m hm hs7 M7 F7 => ?_))
     have G7 := G6.tr F7
     have hm2 : w2.heap.size ≤ m := by have := G6.size; omega
     refine keep_cons (held_one ((F6.tr F7).cell ha (fun h => h))) (keep_cons ((B2.fr G7 (fun h => h)).held1 rfl) (keep_cons (C2.fr G7 (fun h => h)).heldV (keep_nil ?_)))
     refine fill_ok M7 rfl rfl rfl rfl rfl rfl fun w8 M8 F8 => ?_
     change Blk w8 m _ (shCells k1 o1 n1 ns1 ps1) at M8
     have G8 := G7.fill hm2 F8
     refine join1_ok (c := .bool) (fun (b : Bool) w9 => b = !(r.any (fun q => belowF d p q)) ∧ Fr noB w2 w9) (fun kj hkj => drew_ok fun w9 F9 z9 => ?_) ?_
     ·have G9 := G8.tr F9
      cases r with
      | none => exact ite_yes rfl (hkj _ _ ⟨rfl, G9⟩)
      | some q =>
       have hq := find_mem hf
       have hd1 := deep_mem hq
       refine ite_no rfl ?_
       refine (B2.fr G9 (fun h => h)).ldS (o := 4) rfl (part_ld (hps.fr (F12.tr G9)) hp hpn fun k3 o3 n3 ns3 ps3 hv3 => (M8.fr F9 (fun h => h)).ldV ?_)
       refine callB_ok (runder_ok d p q (by have := deep_mem (List.mem_of_getElem? hp); omega) (by omega) (hfa p (List.mem_of_getElem? hp)) (hfb q hq) hv3 ((hr q rfl).fr (F12.tr G9))) fun w10 F10 => keep_cons ((B2.fr (G9.tr F10) (fun h => h)).held1 rfl) (keep_nil (hkj _ _ ⟨rfl, G9.tr F10⟩))
     rintro b w9 ⟨rfl, G9⟩
     refine ite_ok (fun hb => ⟨?_, F12.tr G9⟩) fun hb => hrec (by omega) _ ⟨fun j x' p' hj hx' hp' => ?_, G9⟩
     ·have hb : r.any (fun q => belowF d p q) = false := by simpa using hb
      refine congrArg (fun b => Ending.returned (.bool b)) (Eq.symm ?_)
      rw [hT, Bool.eq_false_iff]
      intro h
      obtain ⟨q, h1, h2⟩ := withinF_iff.1 h i x p hx hp
      rw [hf] at h1
      rw [h1] at hb
      change belowF d p q = false at hb
      rw [hb] at h2
      cases h2
     ·have hb : r.any (fun q => belowF d p q) = true := by simpa using hb
      rcases Nat.lt_succ_iff_lt_or_eq.1 hj with hj | rfl
      ·exact hdone j x' p' hj hx' hp'
      ·rw [hx] at hx'
       rw [hp] at hp'
       cases hx'
       cases hp'
       cases r with
       | none => cases hb
       | some q => exact ⟨q, hf, hb⟩
    ·refine new_ok fun w6 m hm hs7 M6 F6 => ?_
     have G6 := G5.tr F6
     have hm2 : w2.heap.size ≤ m := by have := G5.size; omega
     refine keep_cons (held_one (F6.cell ha (fun h => h))) (keep_cons ((B2.fr G6 (fun h => h)).held1 rfl) (keep_cons (C2.fr G6 (fun h => h)).heldV (keep_nil ?_)))
     refine callPart_ok (hc w6 (F12.tr G6)) fun k1 o1 n1 ns1 ps1 w7 F7 hr => ?_
     have G7 := G6.tr F7
     refine keep_cons ((B2.fr G7 (fun h => h)).held1 rfl) (keep_nil ?_)
     refine fill_ok (M6.fr F7 (fun h => h)) rfl rfl rfl rfl rfl rfl fun w8 M8 F8 => ?_
     change Blk w8 m _ (shCells k1 o1 n1 ns1 ps1) at M8
     have G8 := G7.fill hm2 F8
     refine join1_ok (c := .bool) (fun (b : Bool) w9 => b = !(r.any (fun q => belowF d p q)) ∧ Fr noB w2 w9) (fun kj hkj => drew_ok fun w9 F9 z9 => ?_) ?_
     ·have G9 := G8.tr F9
      cases r with
      | none => exact ite_yes rfl (hkj _ _ ⟨rfl, G9⟩)
      | some q =>
       have hq := find_mem hf
       have hd1 := deep_mem hq
       refine ite_no rfl ?_
       refine (B2.fr G9 (fun h => h)).ldS (o := 4) rfl (part_ld (hps.fr (F12.tr G9)) hp hpn fun k3 o3 n3 ns3 ps3 hv3 => (M8.fr F9 (fun h => h)).ldV ?_)
       refine callB_ok (runder_ok d p q (by have := deep_mem (List.mem_of_getElem? hp); omega) (by omega) (hfa p (List.mem_of_getElem? hp)) (hfb q hq) hv3 ((hr q rfl).fr (F12.tr G9))) fun w10 F10 => keep_cons ((B2.fr (G9.tr F10) (fun h => h)).held1 rfl) (keep_nil (hkj _ _ ⟨rfl, G9.tr F10⟩))
     rintro b w9 ⟨rfl, G9⟩
     refine ite_ok (fun hb => ⟨?_, F12.tr G9⟩) fun hb => hrec (by omega) _ ⟨fun j x' p' hj hx' hp' => ?_, G9⟩
     ·have hb : r.any (fun q => belowF d p q) = false := by simpa using hb
      refine congrArg (fun b => Ending.returned (.bool b)) (Eq.symm ?_)
      rw [hT, Bool.eq_false_iff]
      intro h
      obtain ⟨q, h1, h2⟩ := withinF_iff.1 h i x p hx hp
      rw [hf] at h1
      rw [h1] at hb
      change belowF d p q = false at hb
      rw [hb] at h2
      cases h2
     ·have hb : r.any (fun q => belowF d p q) = true := by simpa using hb
      rcases Nat.lt_succ_iff_lt_or_eq.1 hj with hj | rfl
      ·exact hdone j x' p' hj hx' hp'
      ·rw [hx] at hx'
       rw [hp] at hp'
       cases hx'
       cases hp'
       cases r with
       | none => cases hb
       | some q => exact ⟨q, hf, hb⟩
   ·have hge : ¬ (i : Int) < (ns.n : Int) := of_decide_eq_false hge
    have := (List.getElem?_eq_some_iff.1 hx).1
    exact hdone j x p (by omega) hx hp
end Go.Proofs.YticokfpaoiekgaaGreatDoor
end
