/- The law behind: one part of its proof (joined by program out of my own texts). No condition. -/
import Derived.Test.YticokfpaoiekgaaGreatDoorFdrBB
section
namespace Go.Lift
open Go.Shp
section
variable {R : Ending → World → Prop} {w : World}
theorem part_ldA {w0 : World} {l : List Shape} {a : Option Addr} {len i : Nat} {s : Shape} {K : Addr → Int → ByteArray → ByteArray → Sl → Sl → G} (h : ShL w0 a 0 l) (F : Fr noB w0 w) (hs : l[i]? = some s) (hl : len = l.length)
  (hk : ∀ x k o n ns ps, (∀ w', Fr noB w0 w' → Held w' (x, [.int .i64 k, .string o, .string n, .slice ns.a ns.n ns.c, .slice ps.a ps.n ps.c])) → ShV w0 k o n ns ps s → K x k o n ns ps R w) :
  idxG a len (i : Int) 5 (fun (x : Addr) => ldG (.int .i64) (x.add 0) (fun (k : Int) => ldG .str (x.add 1) (fun (o : ByteArray) => ldG .str (x.add 2) (fun (n : ByteArray) => ldG .slice (x.add 3) (fun (ns : Sl) => ldG .slice (x.add 4) (fun (ps : Sl) => K x k o n ns ps)))))) R w := by
 obtain ⟨g, off, k, o, n, ns, ps, rfl, c0, c1, c2, c3, c4, hv⟩ := h.at hs
 have hi := (List.getElem?_eq_some_iff.1 hs).1
 rw [Nat.zero_add] at c0 c1 c2 c3 c4
 refine idxB_ok (n := len) (i := i) (by omega) ?_
 simp only [Addr.add_lit, Nat.add_zero]
 refine ld_ok (c := .int .i64) (F.cell c0 fun h => h) (ld_ok (c := .str) (F.cell c1 fun h => h) (ld_ok (c := .str) (F.cell c2 fun h => h) (ld_ok (c := .slice) (x := ns) (F.cell c3 fun h => h) (ld_ok (c := .slice) (x := ps) (F.cell c4 fun h => h) (hk _ k o n ns ps ?_ hv)))))
 intro w' F' j v hj
 simp only [Addr.add_lit]
 match j, hj with
 | 0, hj => cases hj; exact F'.cell c0 fun h => h
 | 1, hj => cases hj; exact F'.cell c1 fun h => h
 | 2, hj => cases hj; exact F'.cell c2 fun h => h
 | 3, hj => cases hj; exact F'.cell c3 fun h => h
 | 4, hj => cases hj; exact F'.cell c4 fun h => h
 | j + 5, hj => simp at hj
end
end Go.Lift
namespace Go.Shp
open Go.Lex
theorem nearF_on {d : Nat} {k : Int} {o n : B} {nsA nsB : List B} {psA psB : List Shape} (h4 : k ≠ 4) : nearF (d + 1) (.mk k o n nsA psA) (.mk k o n nsB psB) =
  if k = 6 then withinF (fun x y => nearF d y x) nsB psB nsA psA else if k = 7 then withinF (nearF d) nsA psA nsB psB else funAll (nearF d) psA psB := by
 rw [nearF, if_neg (by omega), if_neg (by simp)]
def hitN (d : Nat) (k : Int) (p : Shape) : Option Shape → Bool
 | none => decide (k = 6)
 | some q => nearF d p q
end Go.Shp
namespace Go.Proofs.YticokfpaoiekgaaGreatDoor
open Go.Lift Go.Lex Go.Shp
set_option maxHeartbeats 4000000 in
theorem gfits_ok : ∀ (d : Nat) (s s' : Shape), deep s ≤ d → deep s' ≤ d → allFit s = true → allFit s' = true → ∀ {w : World} {r : Nat} {k : Int} {o n : ByteArray} {ns ps : Sl} {k2 : Int} {o2 n2 : ByteArray} {ns2 ps2 : Sl}, ShV w k o n ns ps s → ShV w k2 o2 n2 ns2 ps2 s' →
  w.cell? ⟨r, 0, none⟩ = some (.func (.func 72) #[] #[]) → AnsB 43 #[.pointer (some ⟨r, 0, none⟩), shArg k o n ns ps, shArg k2 o2 n2 ns2 ps2] w (nearF d s s')
 | 0, s, _, h, _, _, _, _, _, _, _, _, _, _, _, _, _, _, _, _, _, _ => by have := deep_pos s; omega
 | d + 1, .mk kA oA nA nsA psA, .mk kB oB nB nsB psB, hda, hdb, hfa0, hfb0, w, r, k, o, n, ns, ps, k2, o2, n2, ns2, ps2, hv, hv2, hr => by
  rw [deep_mk] at hda hdb
  obtain ⟨fa, hfa⟩ := allFit_parts hfa0
  obtain ⟨fb, hfb⟩ := allFit_parts hfb0
  obtain ⟨ek, eo, en, ⟨hns, hnl, hpn, hpl, _⟩, hps⟩ := hv.parts
  obtain ⟨ek2, eo2, en2, ⟨hns2, hnl2, hpn2, hpl2, _⟩, hps2⟩ := hv2.parts
  change k = kA at ek
  change bl o = oA at eo
  change bl n = nA at en
  change k2 = kB at ek2
  change bl o2 = oB at eo2
  change bl n2 = nB at en2
  change RdS w ns (nsA.map bs) at hns
  change RdS w ns2 (nsB.map bs) at hns2
  change nsA.length < 4611686018427387904 at hnl
  change nsB.length < 4611686018427387904 at hnl2
  change ps.n = psA.length at hpn
  change ps2.n = psB.length at hpn2
  change psA.length < 4611686018427387904 at hpl
  change ShL w ps.a 0 psA at hps
  change ShL w ps2.a 0 psB at hps2
  have hnn := hns.1
  have hnn2 := hns2.1
  rw [List.length_map] at hnn hnn2
  apply c43
  unfold t43 wrZ ivZ tvZ svZ shZ kfZ ldIZ ldSZ ldLZ ld5mZ ld5xZ st5Z nw5Z nz5Z caBZ caZ jn0Z jnBZ lpIZ ixZ
  refine new_ok fun w1 m10 hm10 hs1 B1 F1 => new_ok fun w2 m11 hm11 hs2 C2 F2 => ?_
  have B2 := B1.fr F2 (fun h => h)
  change Blk w2 m10 _ (shCells k o n ns ps) at B2
  change Blk w2 m11 _ (shCells k2 o2 n2 ns2 ps2) at C2
  have F12 := F1.tr F2
  clear B1
  have hrw : ∀ w', Fr noB w w' → w'.cell? ((⟨r, 0, none⟩ : Addr).add 0) = some (.func (.func 72) #[] #[]) := fun w' F => F.cell hr fun h => h
  generalize hT : nearF (d + 1) (.mk kA oA nA nsA psA) (.mk kB oB nB nsB psB) = T
  refine join0_ok (fun w' => w' = w2 ∧ kA = kB ∧ oA = oB ∧ nA = nB ∧ kA ≠ 4 ∧ kA ≠ 6 ∧ kA ≠ 7 ∧ psA.length = psB.length) (fun kmain hmain => ?_) ?_
  ·refine join1_ok (c := .bool) (fun (b : Bool) w' => w' = w2 ∧ b = decide (kA = 4 ∨ kB = 4)) (fun kj hkj => ?_) ?_
   ·refine B2.ld (c := .int .i64) (x := k) (o := 0) rfl (ite_ok (fun h1 => hkj _ _ ⟨rfl, ?_⟩) fun h1 => C2.ld (c := .int .i64) (x := k2) (o := 0) rfl (hkj _ _ ⟨rfl, ?_⟩))
    ·have h1 : kA = 4 := by rw [← ek]; simpa using h1
     exact (decide_eq_true (.inl h1)).symm
    ·have h1 : ¬ kA = 4 := by rw [← ek]; simpa using h1
     rw [Bool.eq_iff_iff, beq_iff_eq, decide_eq_true_eq, ek2]
     omega
   rintro b w' ⟨hw', rfl⟩
   replace hw' := hw'.symm
   subst hw'
   refine ite_ok (fun h => ?_) fun h4 => ?_
   ·have h : kA = 4 ∨ kB = 4 := of_decide_eq_true h
    refine ⟨?_, F12⟩
    rw [← hT, nearF, if_pos h]
   have h4 : ¬ (kA = 4 ∨ kB = 4) := of_decide_eq_false h4
   refine join1_ok (c := .bool) (fun (b : Bool) w' => w' = w2 ∧ b = decide (kA ≠ kB ∨ oA ≠ oB ∨ nA ≠ nB)) (fun kj hkj => ?_) ?_
   ·refine B2.ld (c := .int .i64) (x := k) (o := 0) rfl (C2.ld (c := .int .i64) (x := k2) (o := 0) rfl (ite_ok (fun h1 => hkj _ _ ⟨rfl, ?_⟩) fun h1 => ?_))
    ·have h1 : kA ≠ kB := by rw [← ek, ← ek2]; simpa using h1
     exact (decide_eq_true (.inl h1)).symm
    have h1 : kA = kB := by rw [← ek, ← ek2]; simpa using h1
    refine B2.ld (c := .str) (x := o) (o := 1) rfl (C2.ld (c := .str) (x := o2) (o := 1) rfl ?_)
    rw [eq_bl, eo, eo2]
    refine ite_ok (fun h2 => hkj _ _ ⟨rfl, ?_⟩) fun h2 => ?_
    ·have h2 : oA ≠ oB := by simpa using h2
     exact (decide_eq_true (.inr (.inl h2))).symm
    have h2 : oA = oB := by simpa using h2
    refine B2.ld (c := .str) (x := n) (o := 2) rfl (C2.ld (c := .str) (x := n2) (o := 2) rfl (hkj _ _ ⟨rfl, ?_⟩))
    rw [eq_bl, en, en2, h1, h2]
    by_cases h3 : nA = nB <;> simp [h3]
   rintro b w' ⟨hw', rfl⟩
   replace hw' := hw'.symm
   subst hw'
   refine ite_ok (fun h => ?_) fun h => ?_
   ·have h : kA ≠ kB ∨ oA ≠ oB ∨ nA ≠ nB := of_decide_eq_true h
    refine ⟨?_, F12⟩
    rw [← hT, nearF, if_neg h4, if_pos h]
   have h : ¬ (kA ≠ kB ∨ oA ≠ oB ∨ nA ≠ nB) := of_decide_eq_false h
   obtain ⟨h1, h2, h3⟩ : kA = kB ∧ oA = oB ∧ nA = nB := by
    refine ⟨Classical.byContradiction fun e => h (.inl e), Classical.byContradiction fun e => h (.inr (.inl e)), Classical.byContradiction fun e => h (.inr (.inr e))⟩
   clear h
   rw [← h1, ← h2, ← h3] at fb hT
   rw [nearF_on (by omega)] at hT
   replace hT := hT.symm
   refine join1_ok (c := .bool) (fun (b : Bool) w' => w' = w2 ∧ b = decide (kA = 6 ∨ kA = 7)) (fun kj hkj => ?_) ?_
   ·refine B2.ld (c := .int .i64) (x := k) (o := 0) rfl (ite_ok (fun h1 => hkj _ _ ⟨rfl, ?_⟩) fun h1 => B2.ld (c := .int .i64) (x := k) (o := 0) rfl (hkj _ _ ⟨rfl, ?_⟩))
    ·have h1 : kA = 6 := by rw [← ek]; simpa using h1
     exact (decide_eq_true (.inl h1)).symm
    ·have h1 : ¬ kA = 6 := by rw [← ek]; simpa using h1
     rw [Bool.eq_iff_iff, beq_iff_eq, decide_eq_true_eq, ek]
     omega
   rintro b w' ⟨hw', rfl⟩
   replace hw' := hw'.symm
   subst hw'
   refine ite_ok (fun h67 => ?_) fun h67 => ?_
   rotate_left
   ·have h67 : ¬ (kA = 6 ∨ kA = 7) := of_decide_eq_false h67
    rw [if_neg (by omega), if_neg (by omega)] at hT
    refine B2.ldS (o := 4) rfl (C2.ldS (o := 4) rfl (ite_ok (fun hl => ⟨?_, F12⟩) fun hl => hmain _ ⟨rfl, h1, h2, h3, by omega, by omega, by omega, ?_⟩))
    ·have hl : ((ps.n : Nat) : Int) ≠ (ps2.n : Nat) := by simpa using hl
     have : T = false := by
      rw [hT, Bool.eq_false_iff]
      intro h
      have := (funAll_iff.1 h).1
      omega
     rw [this]
    ·have hl : ((ps.n : Nat) : Int) = (ps2.n : Nat) := by simpa using hl
     omega
   have h67 : kA = 6 ∨ kA = 7 := of_decide_eq_true h67
   obtain ⟨hla, hda2⟩ := fits_named fa h67
   obtain ⟨hlb, hdb2⟩ := fits_named fb h67
   refine B2.ldS (o := 3) rfl ?_
   refine join0_ok (fun w4 => (∀ (j : Nat) (x : B) (p : Shape), nsA[j]? = some x → psA[j]? = some p → hitN d kA p (find nsB psB x) = true) ∧ Fr noB w2 w4) (fun kend hkend => ?_) ?_
   ·refine countL_ok nsA.length (by omega) (fun i w4 => (∀ (j : Nat) (x : B) (p : Shape), j < i → nsA[j]? = some x → psA[j]? = some p → hitN d kA p (find nsB psB x) = true) ∧ Fr noB w2 w4) (fun rec i w4 hi hI hrec => ?_) ⟨fun j x p h => by omega, Fr.refl _ _⟩
    obtain ⟨hdone, G4⟩ := hI
    refine ite_ok (fun hlt => ?_) fun hge => hkend _ ⟨fun j x p hx hp => ?_, G4⟩
    rotate_left
    ·have hge : ¬ (i : Int) < (ns.n : Int) := of_decide_eq_false hge
     have := (List.getElem?_eq_some_iff.1 hx).1
     exact hdone j x p (by omega) hx hp
    have hlt : (i : Int) < (ns.n : Int) := of_decide_eq_true hlt
    obtain ⟨x, hx⟩ : ∃ x, nsA[i]? = some x := ⟨_, List.getElem?_eq_getElem (by omega)⟩
    obtain ⟨p, hp⟩ : ∃ p, psA[i]? = some p := ⟨_, List.getElem?_eq_getElem (by omega)⟩
    have hpm := List.mem_of_getElem? hp
    have hdp := deep_mem hpm
    have hstep : ∀ b : Bool, hitN d kA p (find nsB psB x) = b → (b = false → T = false) ∧ (b = true → ∀ (j : Nat) (x : B) (p : Shape), j < i + 1 → nsA[j]? = some x → psA[j]? = some p → hitN d kA p (find nsB psB x) = true) := by
     intro b hb
     refine ⟨fun h => ?_, fun h j x' p' hj hx' hp' => ?_⟩
     ·subst h
      rw [hT, Bool.eq_false_iff]
      rcases h67 with h6 | h7
      ·rw [if_pos h6]
       intro hW
       have hW := (near_rec (f := nearF d) hla hlb hda2 hdb2).2 hW
       cases hf : find nsB psB x with
       | none => rw [hf] at hb; exact of_decide_eq_false hb h6
       | some q =>
        rw [hf] at hb
        change nearF d p q = false at hb
        rw [hW.1 i x p q hx hp hf] at hb
        cases hb
      ·rw [if_neg (by omega), if_pos h7]
       intro hW
       obtain ⟨q, hq, hn⟩ := withinF_iff.1 hW i x p hx hp
       rw [hq] at hb
       change nearF d p q = false at hb
       rw [hn] at hb
       cases hb
     ·rcases Nat.lt_succ_iff_lt_or_eq.1 hj with hj | rfl
      ·exact hdone j x' p' hj hx' hp'
      ·rw [hx] at hx'
       rw [hp] at hp'
       cases hx'
       cases hp'
       rw [hb, h]
    refine join_in (vs := []) (str_ld (hns.fr (F12.tr G4)) hx ?_)
    have hcf := fun w' F => gfind_ok (w := w') (bs x) hv2 F hlb
    change ∀ w', Fr noB w w' → Calls _ _ _ _ (PtrP w w' (find nsB psB (bl (bs x)))) at hcf
    rw [bl_bs] at hcf
    generalize hfnd : find nsB psB x = res at hcf hstep
    refine (C2.fr G4 (fun h => h)).ldV (call_ok (hcf w4 (F12.tr G4)) ?_)
    rintro e w5 ⟨q0, rfl, F5, hq0, hq1⟩
    refine ⟨((q0, ()), ()), rfl, ?_⟩
    have G5 := G4.tr F5
    refine join1_ok (c := .bool) (fun (b : Bool) w6 => b = !hitN d kA p res ∧ Fr noB w2 w6) (fun kj hkj => drew_ok fun w6 F6 z6 => ?_) ?_
    rotate_left
    ·rintro b w6 ⟨rfl, G6⟩
     refine ite_ok (fun hb => ⟨?_, F12.tr G6⟩) fun hb => hrec (by omega) _ ⟨(hstep _ rfl).2 (by simpa using hb), G6⟩
     rw [(hstep _ rfl).1 (by simpa using hb)]
    have G6 := G5.tr F6
    rw [hq0]
    cases res with
    | none =>
     refine ite_yes rfl (ld_ok (c := .any) (hrw w6 (F12.tr G6)) ((B2.fr G6 (fun h => h)).ldV ((C2.fr G6 (fun h => h)).ldV ?_)))
     refine callBV_ok resLoose1 loose1_ok fun w7 F7 => ?_
     have G7 := G6.tr F7
     refine ite_ok (fun hb => hkj _ _ ⟨?_, G7⟩) fun hb => ite_no rfl (hkj _ _ ⟨?_, G7⟩)
     ·have hb : ¬ kA = 6 := by rw [← ek]; simpa using hb
      unfold hitN
      rw [decide_eq_false hb]
      rfl
     ·have hb : kA = 6 := by rw [← ek]; simpa using hb
      unfold hitN
      rw [decide_eq_true hb]
      rfl
    | some q =>
     obtain ⟨g, off, k3, o3, n3, ns3, ps3, rfl, c0, c1, c2, c3, c4, hv3⟩ := hq1 q rfl
     have hqm := find_mem hfnd
     have hdq := deep_mem hqm
     refine ite_no rfl (ite_yes rfl ((B2.fr G6 (fun h => h)).ldS (o := 4) rfl (part_ld0 hps (F12.tr G6) hp hpn fun k4 o4 n4 ns4 ps4 hv4 => ptr_ld (F12.tr G6) c0 c1 c2 c3 c4 ?_)))
     refine callB_ok (gfits_ok d p q (by omega) (by omega) (hfa p hpm) (hfb q hqm) (hv4.fr (F12.tr G6)) (hv3.fr (F12.tr G6)) ((F12.tr G6).cell hr fun h => h)) fun w7 F7 => ?_
     have G7 := G6.tr F7
     exact keep_cons ((B2.fr G7 (fun h => h)).held1 rfl) (keep_nil (hkj _ _ ⟨rfl, G7⟩))
   rintro w4 ⟨hall, G4⟩
   refine join1_ok (c := .bool) (fun (b : Bool) w5 => b = T ∧ Fr noB w2 w5) (fun kj hkj => drew_ok fun w5 F5 z5 => ?_) (fun b w5 ⟨h, G5⟩ => ⟨by rw [h], F12.tr G5⟩)
   have G5 := G4.tr F5
   refine ld_ok (c := .any) (hrw w5 (F12.tr G5)) ((C2.fr G5 (fun h => h)).ldV ((B2.fr G5 (fun h => h)).ldV ?_))
   refine callBV_ok resLoose1 loose1_ok fun w6 F6 => ?_
   have G6 := G5.tr F6
   refine ite_ok (fun hb => hkj _ _ ⟨?_, G6⟩) fun hb => ?_
   ·have hb : ¬ k2 = 6 := by simpa using hb
    have h7 : kA = 7 := by omega
    rw [hT, if_neg (by omega), if_pos h7]
    symm
    refine withinF_iff.2 fun i x p hx hp => ?_
    have := hall i x p hx hp
    cases hf : find nsB psB x with
    | none => rw [hf] at this; have := of_decide_eq_true this; omega
    | some q => rw [hf] at this; exact ⟨q, rfl, this⟩
   ·have hb : k2 = 6 := by simpa using hb
    have h6 : kA = 6 := by omega
    refine (C2.fr G6 (fun h => h)).ldS (o := 3) rfl ?_
    refine callB_ok (containsT_ok (p := fun y => (find nsA psA y).isNone) (hns2.fr (F12.tr G6)) hnl2 resLacks1 fun y hy w7 F7 => ?_) fun w7 F7 => ?_
    ·have K7 := G6.tr F7
     have B7 := B2.fr K7 (fun h => h)
     have := lacks1_ok (w := w7) (bs y) (hv.fr (F12.tr K7)) (Fr.refl _ _) hla (B7.cell (o := 0) rfl) (B7.cell (o := 0 + 1) rfl) (B7.cell (o := 0 + 2) rfl) (B7.cell (o := 0 + 3) rfl) (B7.cell (o := 0 + 4) rfl)
     rw [bl_bs] at this
     exact this
    have G7 := G6.tr F7
    refine keep_cons (B2.fr G7 (fun h => h)).heldV (keep_cons (C2.fr G7 (fun h => h)).heldV (keep_cons (held_one (hrw w7 (F12.tr G7))) (keep_nil (hkj _ _ ⟨?_, G7⟩))))
    rw [hT, if_pos h6]
    rw [Bool.eq_iff_iff, ← near_rec (f := nearF d) hla hlb hda2 hdb2]
    constructor
    ·intro hn
     refine ⟨fun i x p q hx hp hq => ?_, fun x hx => ?_⟩
     ·have := hall i x p hx hp
      rw [hq] at this
      exact this
     ·have hn : nsB.any (fun y => (find nsA psA y).isNone) = false := by simpa using hn
      have := List.any_eq_false.1 hn x hx
      cases hf : find nsA psA x with
      | none => rw [hf] at this; exact absurd rfl this
      | some q => rfl
    ·rintro ⟨_, h2⟩
     rw [Bool.not_eq_true', List.any_eq_false]
     intro x hx
     have := h2 x hx
     cases hf : find nsA psA x with
     | none => rw [hf] at this; cases this
     | some q => exact Bool.false_ne_true
  rintro w' ⟨hw', h1, h2, h3, h4, h6, h7, hlen⟩
  replace hw' := hw'.symm
  subst hw'
  rw [← h1, ← h2, ← h3] at fb hT
  rw [nearF_on h4, if_neg h6, if_neg h7] at hT
  replace hT := hT.symm
  have hsw : ∀ i, i < psA.length → (decide (kA = 8 ∧ i + 1 < psA.length) = !decide (i + 1 = psA.length)) := by
   intro i hi
   by_cases h8 : kA = 8
   ·by_cases he : i + 1 = psA.length
    ·rw [decide_eq_true he, decide_eq_false (by omega)]
     rfl
    ·rw [decide_eq_false he, decide_eq_true (by omega)]
     rfl
   ·have : psA.length = 1 := by
     by_cases h5 : kA = 5
     ·subst h5
      exact fits_five fa
     ·have := (fits_leaf fa ⟨h5, h6, h7, h8⟩).1
      rw [this] at hi
      simp at hi
    rw [decide_eq_true (by omega : i + 1 = psA.length), decide_eq_false (by omega)]
    rfl
  refine B2.ldS (o := 4) rfl ?_
  refine join0_ok (fun w4 => T = true ∧ Fr noB w2 w4) (fun kend hkend => ?_) fun w4 ⟨h, G4⟩ => ⟨by rw [h], F12.tr G4⟩
  refine countL_ok psA.length (by omega) (fun i w4 => (∀ (j : Nat) (p q : Shape), j < i → psA[j]? = some p → psB[j]? = some q → if j + 1 = psA.length then nearF d p q = true else nearF d q p = true) ∧ Fr noB w2 w4) (fun rec i w4 hi hI hrec => ?_) ⟨fun j x p h => by omega, Fr.refl _ _⟩
  obtain ⟨hdone, G4⟩ := hI
  refine ite_ok (fun hlt => ?_) fun hge => hkend _ ⟨?_, G4⟩
  rotate_left
  ·have hge : ¬ (i : Int) < (ps.n : Int) := of_decide_eq_false hge
   rw [hT, funAll_iff]
   refine ⟨by omega, fun j p q hp hq => ?_⟩
   have := (List.getElem?_eq_some_iff.1 hp).1
   exact hdone j p q (by omega) hp hq
  have hlt : (i : Int) < (ps.n : Int) := of_decide_eq_true hlt
  obtain ⟨p, hp⟩ : ∃ p, psA[i]? = some p := ⟨_, List.getElem?_eq_getElem (by omega)⟩
  obtain ⟨q, hq⟩ : ∃ q, psB[i]? = some q := ⟨_, List.getElem?_eq_getElem (by omega)⟩
  have hpm := List.mem_of_getElem? hp
  have hqm := List.mem_of_getElem? hq
  have hdp := deep_mem hpm
  have hdq := deep_mem hqm
  have ew : IntKind.wrap .i64 (((ps.n : Nat) : Int) - 1) = ((ps.n : Nat) : Int) - 1 := wrap_ok (by omega) (by omega)
  have hgo : ∀ b : Bool, (if i + 1 = psA.length then nearF d p q else nearF d q p) = b → (b = false → T = false) ∧ (b = true → ∀ (j : Nat) (p q : Shape), j < i + 1 → psA[j]? = some p → psB[j]? = some q → if j + 1 = psA.length then nearF d p q = true else nearF d q p = true) := by
   intro b hb
   refine ⟨fun h => ?_, fun h j p' q' hj hp' hq' => ?_⟩
   ·subst h
    rw [hT, Bool.eq_false_iff]
    intro h
    have := (funAll_iff.1 h).2 i p q hp hq
    by_cases hl : i + 1 = psA.length
    ·rw [if_pos hl] at this hb
     rw [this] at hb
     cases hb
    ·rw [if_neg hl] at this hb
     rw [this] at hb
     cases hb
   ·rcases Nat.lt_succ_iff_lt_or_eq.1 hj with hj | rfl
    ·exact hdone j p' q' hj hp' hq'
    ·rw [hp] at hp'
     rw [hq] at hq'
     cases hp'
     cases hq'
     subst h
     by_cases hl : j + 1 = psA.length
     ·rw [if_pos hl] at hb ⊢
      exact hb
     ·rw [if_neg hl] at hb ⊢
      exact hb
  have fin : ∀ {wx wy : World} {b : Bool}, Fr noB w2 wx → Fr noB wx wy → (if i + 1 = psA.length then nearF d p q else nearF d q p) = b → iteG (!b) (retG (.bool false)) (rec (IntKind.wrap .i64 ((i : Int) + 1))) (fun e w' => e = .returned (.bool T) ∧ Fr noB w w') wy := by
   intro wx wy b Gx Fy hb
   refine ite_ok (fun h => ⟨?_, F12.tr (Gx.tr Fy)⟩) fun h => hrec (by omega) _ ⟨(hgo b hb).2 (by simpa using h), Gx.tr Fy⟩
   rw [(hgo b hb).1 (by simpa using h)]
  refine join_in (vs := []) (drew_ok fun w5 F5 z5 => ?_)
  have G5 := G4.tr F5
  refine (B2.fr G5 (fun h => h)).ldS (o := 4) rfl (part_ldA hps (F12.tr G5) hp hpn fun xA k3 o3 n3 ns3 ps3 hxA hv3 => ?_)
  refine (C2.fr G5 (fun h => h)).ldS (o := 4) rfl (part_ldA hps2 (F12.tr G5) hq hpn2 fun xB k4 o4 n4 ns4 ps4 hxB hv4 => both_ok ?_ ?_)
  ·refine new_ok fun w6 MA hmA hs6 A6 F6 => ?_
   have G6 := G5.tr F6
   refine keep_cons (hxB _ (F12.tr G6)) (keep_cons ((C2.fr G6 (fun h => h)).held1 rfl) (keep_cons (hxA _ (F12.tr G6)) (keep_cons ((B2.fr G6 (fun h => h)).held1 rfl) (keep_nil ?_))))
   refine new_ok fun w7 MB hmB hs7 E7 F7 => ?_
   have G7 := G6.tr F7
   have A7 := A6.fr F7 (fun h => h)
   have hz5 := G5.size
   refine keep_cons (hxB _ (F12.tr G7)) (keep_cons ((C2.fr G7 (fun h => h)).held1 rfl) (keep_cons (hxA _ (F12.tr G7)) (keep_cons ((B2.fr G7 (fun h => h)).held1 rfl) (keep_nil ?_))))
   refine fill_ok A7 rfl rfl rfl rfl rfl rfl fun w8 P8 F8 => ?_
   have G8 := G7.fill (by omega) F8
   refine keep_cons (hxB _ (F12.tr G8)) (keep_cons ((C2.fr G8 (fun h => h)).held1 rfl) (keep_nil ?_))
   refine fill_ok (E7.fr F8 (by unfold oneB; omega)) rfl rfl rfl rfl rfl rfl fun w9 Q9 F9 => ?_
   have G9 := G8.fill (by omega) F9
   have P9 := P8.fr F9 (by unfold oneB; omega)
   change Blk w9 MA _ (shCells k3 o3 n3 ns3 ps3) at P9
   change Blk w9 MB _ (shCells k4 o4 n4 ns4 ps4) at Q9
   refine join1_ok (c := .bool) (fun (b : Bool) w' => w' = w9 ∧ b = decide (kA = 8 ∧ i + 1 < psA.length)) (fun kj hkj => ?_) ?_
   ·refine (B2.fr G9 (fun h => h)).ld (c := .int .i64) (x := k) (o := 0) rfl (ite_ok (fun h8 => (B2.fr G9 (fun h => h)).ldS (o := 4) rfl (hkj _ _ ⟨rfl, ?_⟩)) fun h8 => hkj _ _ ⟨rfl, ?_⟩)
    ·have h8 : kA = 8 := by rw [← ek]; simpa using h8
     rw [ew]
     exact decide_eq_decide.2 (by omega)
    ·have h8 : ¬ kA = 8 := by rw [← ek]; simpa using h8
     exact (decide_eq_false (by omega)).symm
   rintro b w' ⟨hw', hb⟩
   replace hw' := hw'.symm
   subst hw'
   rw [hsw i (by omega)] at hb
   refine join_in (vs := []) (ite_ok (fun h => ?_) fun h => ?_)
   ·have hne : ¬ i + 1 = psA.length := by rw [h] at hb; simpa using hb.symm
    refine Q9.ldV (P9.ldV ?_)
    refine fill_ok P9 rfl rfl rfl rfl rfl rfl fun w10 P10 F10 => ?_
    have G10 := G9.fill (by omega) F10
    refine fill_ok (Q9.fr F10 (by unfold oneB; omega)) rfl rfl rfl rfl rfl rfl fun w11 Q11 F11 => ?_
    have G11 := G10.fill (by omega) F11
    have P11 := P10.fr F11 (by unfold oneB; omega)
    change Blk w11 MA _ (shCells k4 o4 n4 ns4 ps4) at P11
    change Blk w11 MB _ (shCells k3 o3 n3 ns3 ps3) at Q11
    refine P11.ldV (Q11.ldV (callB_ok (gfits_ok d q p (by omega) (by omega) (hfb q hqm) (hfa p hpm) (hv4.fr (F12.tr G11)) (hv3.fr (F12.tr G11)) ((F12.tr G11).cell hr fun h => h)) fun w12 F12' => fin G11 F12' (by rw [if_neg hne])))
   ·have hne : i + 1 = psA.length := by rw [h] at hb; simpa using hb.symm
    refine P9.ldV (Q9.ldV (callB_ok (gfits_ok d p q (by omega) (by omega) (hfa p hpm) (hfb q hqm) (hv3.fr (F12.tr G9)) (hv4.fr (F12.tr G9)) ((F12.tr G9).cell hr fun h => h)) fun w12 F12' => fin G9 F12' (by rw [if_pos hne])))
  ·refine new_ok fun w6 MA hmA hs6 A6 F6 => ?_
   have G6 := G5.tr F6
   refine keep_cons (hxB _ (F12.tr G6)) (keep_cons ((C2.fr G6 (fun h => h)).held1 rfl) (keep_cons (hxA _ (F12.tr G6)) (keep_cons ((B2.fr G6 (fun h => h)).held1 rfl) (keep_nil ?_))))
   refine new_ok fun w7 MB hmB hs7 E7 F7 => ?_
   have G7 := G6.tr F7
   have A7 := A6.fr F7 (fun h => h)
   have hz5 := G5.size
   refine keep_cons (hxB _ (F12.tr G7)) (keep_cons ((C2.fr G7 (fun h => h)).held1 rfl) (keep_cons (hxA _ (F12.tr G7)) (keep_cons ((B2.fr G7 (fun h => h)).held1 rfl) (keep_nil ?_))))
   refine fill_ok E7 rfl rfl rfl rfl rfl rfl fun w8 P8 F8 => ?_
   have G8 := G7.fill (by omega) F8
   refine keep_cons (hxB _ (F12.tr G8)) (keep_cons ((C2.fr G8 (fun h => h)).held1 rfl) (keep_nil ?_))
   refine fill_ok (A7.fr F8 (by unfold oneB; omega)) rfl rfl rfl rfl rfl rfl fun w9 Q9 F9 => ?_
   have G9 := G8.fill (by omega) F9
   have P9 := P8.fr F9 (by unfold oneB; omega)
   change Blk w9 MB _ (shCells k3 o3 n3 ns3 ps3) at P9
   change Blk w9 MA _ (shCells k4 o4 n4 ns4 ps4) at Q9
   refine join1_ok (c := .bool) (fun (b : Bool) w' => w' = w9 ∧ b = decide (kA = 8 ∧ i + 1 < psA.length)) (fun kj hkj => ?_) ?_
   ·refine (B2.fr G9 (fun h => h)).ld (c := .int .i64) (x := k) (o := 0) rfl (ite_ok (fun h8 => (B2.fr G9 (fun h => h)).ldS (o := 4) rfl (hkj _ _ ⟨rfl, ?_⟩)) fun h8 => hkj _ _ ⟨rfl, ?_⟩)
    ·have h8 : kA = 8 := by rw [← ek]; simpa using h8
     rw [ew]
     exact decide_eq_decide.2 (by omega)
    ·have h8 : ¬ kA = 8 := by rw [← ek]; simpa using h8
     exact (decide_eq_false (by omega)).symm
   rintro b w' ⟨hw', hb⟩
   replace hw' := hw'.symm
   subst hw'
   rw [hsw i (by omega)] at hb
   refine join_in (vs := []) (ite_ok (fun h => ?_) fun h => ?_)
   ·have hne : ¬ i + 1 = psA.length := by rw [h] at hb; simpa using hb.symm
    refine Q9.ldV (P9.ldV ?_)
    refine fill_ok P9 rfl rfl rfl rfl rfl rfl fun w10 P10 F10 => ?_
    have G10 := G9.fill (by omega) F10
    refine fill_ok (Q9.fr F10 (by unfold oneB; omega)) rfl rfl rfl rfl rfl rfl fun w11 Q11 F11 => ?_
    have G11 := G10.fill (by omega) F11
    have P11 := P10.fr F11 (by unfold oneB; omega)
    change Blk w11 MB _ (shCells k4 o4 n4 ns4 ps4) at P11
    change Blk w11 MA _ (shCells k3 o3 n3 ns3 ps3) at Q11
    refine P11.ldV (Q11.ldV (callB_ok (gfits_ok d q p (by omega) (by omega) (hfb q hqm) (hfa p hpm) (hv4.fr (F12.tr G11)) (hv3.fr (F12.tr G11)) ((F12.tr G11).cell hr fun h => h)) fun w12 F12' => fin G11 F12' (by rw [if_neg hne])))
   ·have hne : i + 1 = psA.length := by rw [h] at hb; simpa using hb.symm
    refine P9.ldV (Q9.ldV (callB_ok (gfits_ok d p q (by omega) (by omega) (hfa p hpm) (hfb q hqm) (hv3.fr (F12.tr G9)) (hv4.fr (F12.tr G9)) ((F12.tr G9).cell hr fun h => h)) fun w12 F12' => fin G9 F12' (by rw [if_pos hne])))
theorem gboth_ok (hC : CheckC) {s s' : Shape} {w : World} {k : Int} {o n : ByteArray} {ns ps : Sl} {k2 : Int} {o2 n2 : ByteArray} {ns2 ps2 : Sl} (hv : ShV w k o n ns ps s) (hv2 : ShV w k2 o2 n2 ns2 ps2 s') :
  AnsB 41 #[shArg k o n ns ps, shArg k2 o2 n2 ns2 ps2] w (check s == 0 && check s' == 0) := by
 apply c41
 unfold t41 shZ ld5mZ nw5Z caIZ jnBZ
 refine new_ok fun w1 m10 hm10 hs1 B1 F1 => new_ok fun w2 m11 hm11 hs2 C2 F2 => ?_
 have B2 := B1.fr F2 (fun h => h)
 change Blk w2 m10 _ (shCells k o n ns ps) at B2
 change Blk w2 m11 _ (shCells k2 o2 n2 ns2 ps2) at C2
 have F12 := F1.tr F2
 refine join1_ok (c := .bool) (fun (b : Bool) w' => b = (check s == 0 && check s' == 0) ∧ Fr noB w w') (fun kj hkj => ?_) (fun b w' h => done_b h)
 have h0 : ∀ m : Nat, (((m : Nat) : Int) == 0) = (m == 0) := fun m => by rw [Bool.eq_iff_iff, beq_iff_eq, beq_iff_eq]; omega
 refine B2.ldV (callI_ok (hC (hv.fr F12)) fun w3 F3 => ?_)
 rw [h0]
 refine ite_ok (fun h => (C2.fr F3 (fun h => h)).ldV (callI_ok (hC (hv2.fr (F12.tr F3))) fun w4 F4 => hkj _ _ ⟨?_, (F12.tr F3).tr F4⟩)) fun h => hkj _ _ ⟨by rw [h]; rfl, F12.tr F3⟩
 rw [h0, h]
 rfl
theorem snear_ok (hC : CheckC) : NearC := by
 intro s s' w k o n ns ps k2 o2 n2 ns2 ps2 hv hv2
 apply c22
 unfold t22 shZ kfZ ld5mZ nw5Z caBZ caZ jnBZ
 refine new_ok fun w1 m10 hm10 hs1 B1 F1 => new_ok fun w2 m11 hm11 hs2 C2 F2 => ?_
 have B2 := B1.fr F2 (fun h => h)
 change Blk w2 m10 _ (shCells k o n ns ps) at B2
 change Blk w2 m11 _ (shCells k2 o2 n2 ns2 ps2) at C2
 have F12 := F1.tr F2
 clear B1
 refine join1_ok (c := .bool) (fun (b : Bool) w' => b = isNear s s' ∧ Fr noB w w') (fun kj hkj => drew_ok fun w3 F3 z3 => ?_) (fun b w' h => done_b h)
 have hsp : isNear s s' = (check s == 0 && check s' == 0 && near s s') := rfl
 refine (B2.fr F3 fun h => h).ldV ((C2.fr F3 fun h => h).ldV (callB_ok (gboth_ok hC (hv.fr (F12.tr F3)) (hv2.fr (F12.tr F3))) fun w4 F4 => ?_))
 have G4 := F3.tr F4
 refine ite_ok (fun h => ?_) fun h => hkj _ _ ⟨by rw [hsp, h]; rfl, F12.tr G4⟩
 rw [Bool.and_eq_true, beq_iff_eq, beq_iff_eq] at h
 obtain ⟨_, _, fa⟩ := check_ok.1 h.1
 obtain ⟨_, _, fb⟩ := check_ok.1 h.2
 refine (B2.fr G4 fun h => h).ldV ((C2.fr G4 fun h => h).ldV (call_ok loose_ok ?_))
 rintro e w5 ⟨r, rfl, hr, F5⟩
 refine ⟨((some ⟨r, 0, none⟩, ()), ()), rfl, ?_⟩
 have G5 := G4.tr F5
 refine keep_cons (C2.fr G5 (fun h => h)).heldV (keep_cons (B2.fr G5 (fun h => h)).heldV (keep_cons (C2.fr G5 (fun h => h)).heldV (keep_cons (B2.fr G5 (fun h => h)).heldV (keep_nil ?_))))
 refine callB_ok (gfits_ok (max (deep s) (deep s')) s s' (Nat.le_max_left _ _) (Nat.le_max_right _ _) fa fb (hv.fr (F12.tr G5)) (hv2.fr (F12.tr G5)) hr) fun w6 F6 => ?_
 have G6 := G5.tr F6
 refine keep_cons (C2.fr G6 (fun h => h)).heldV (keep_cons (B2.fr G6 (fun h => h)).heldV (keep_nil (hkj _ _ ⟨?_, F12.tr G6⟩)))
 rw [hsp, h.1, h.2]
 rfl
end Go.Proofs.YticokfpaoiekgaaGreatDoor
end
