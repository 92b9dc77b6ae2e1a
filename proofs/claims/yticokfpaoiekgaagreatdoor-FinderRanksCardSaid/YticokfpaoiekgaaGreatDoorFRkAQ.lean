/- The finder law behind FRanksCard: one part of its proof (joined by program out of my own texts). No condition. -/
import Derived.Test.YticokfpaoiekgaaGreatDoorFRkAP
section
namespace Go.Shp
theorem eqL_len : ∀ {l r : List Shape}, eqL l r = true → l.length = r.length
  | [], [], _ => rfl
  | [], _ :: _, h => by simp [eqL] at h
  | _ :: _, [], h => by simp [eqL] at h
  | a :: l, b :: r, h => by
    rw [eqL, Bool.and_eq_true] at h
    rw [List.length_cons, List.length_cons, eqL_len h.2]
theorem eqL_at : ∀ {l r : List Shape} {i : Nat} {a b : Shape}, eqL l r = true → l[i]? = some a → r[i]? = some b → eqS a b = true
  | [], _, _, _, _, _, h, _ => by simp at h
  | _ :: _, [], _, _, _, _, _, h => by simp at h
  | x :: l, y :: r, 0, a, b, h, ha, hb => by
    rw [eqL, Bool.and_eq_true] at h
    cases ha
    cases hb
    exact h.1
  | x :: l, y :: r, i + 1, a, b, h, ha, hb => by
    rw [eqL, Bool.and_eq_true] at h
    exact eqL_at (i := i) h.2 (by simpa using ha) (by simpa using hb)
theorem eqL_of : ∀ {l r : List Shape}, l.length = r.length → (∀ (i : Nat) (a b : Shape), l[i]? = some a → r[i]? = some b → eqS a b = true) → eqL l r = true
  | [], [], _, _ => by rw [eqL]
  | [], _ :: _, h, _ => by simp at h
  | _ :: _, [], h, _ => by simp at h
  | x :: l, y :: r, h, k => by
    rw [eqL, k 0 x y rfl rfl, Bool.true_and]
    exact eqL_of (by simpa using h) fun i a b ha hb => k (i + 1) a b (by simpa using ha) (by simpa using hb)
end Go.Shp
namespace Go.Proofs.YticokfpaoiekgaaGreatDoor
open Go.Lift Go.Lex Go.Shp
theorem requal_ok : ∀ (d : Nat) (s s' : Shape), size s ≤ d → ∀ {w : World} {k : Int} {o n : ByteArray} {ns ps : Sl} {k2 : Int} {o2 n2 : ByteArray} {ns2 ps2 : Sl}, ShV w k o n ns ps s → ShV w k2 o2 n2 ns2 ps2 s' →
    AnsB 45 #[shArg k o n ns ps, shArg k2 o2 n2 ns2 ps2] w (eqS s s')
  | 0, s, _, h, _, _, _, _, _, _, _, _, _, _, _, _, _ => by have := size_pos s; omega
  | d + 1, .mk kA oA nA nsA psA, .mk kB oB nB nsB psB, hd, w, k, o, n, ns, ps, k2, o2, n2, ns2, ps2, hv, hv2 => by
    rw [size_mk] at hd
    obtain ⟨ek, eo, en, ⟨hns, hnl, hpn, hpl, _⟩, hps⟩ := hv.parts
    obtain ⟨ek2, eo2, en2, ⟨hns2, hnl2, hpn2, hpl2, _⟩, hps2⟩ := hv2.parts
    change k = kA at ek
    change bl o = oA at eo
    change bl n = nA at en
    change k2 = kB at ek2
    change bl o2 = oB at eo2
    change bl n2 = nB at en2
    change RdS w ns (nsA.map bs) at hns
    change RdS w ns2 (nsB.map bs) at hns2
    change nsA.length < 4611686018427387904 at hnl
    change nsB.length < 4611686018427387904 at hnl2
    change ps.n = psA.length at hpn
    change ps2.n = psB.length at hpn2
    change psA.length < 4611686018427387904 at hpl
    change ShL w ps.a 0 psA at hps
    change ShL w ps2.a 0 psB at hps2
    have hnn := hns.1
    have hnn2 := hns2.1
    rw [List.length_map] at hnn hnn2
    have heq : eqS (.mk kA oA nA nsA psA) (.mk kB oB nB nsB psB) = (decide (kA = kB) && oA == oB && nA == nB && nsA == nsB && eqL psA psB) := by rw [eqS]
    apply c45
    unfold t45
    refine new_ok fun w1 m10 hm10 hs1 B1 F1 => new_ok fun w2 m11 hm11 hs2 C2 F2 => ?_
    have B2 := B1.fr F2 (fun h => h)
    change Blk w2 m10 _ (shCells k o n ns ps) at B2
    change Blk w2 m11 _ (shCells k2 o2 n2 ns2 ps2) at C2
    have F12 := F1.tr F2
    clear B1
    refine join1_ok (c := .bool) (fun (b : Bool) w' => w' = w2 ∧ if b then eqS (.mk kA oA nA nsA psA) (.mk kB oB nB nsB psB) = false else (kA = kB ∧ oA = oB ∧ nA = nB ∧ nsA.length = nsB.length ∧ psA.length = psB.length)) (fun kj hkj => ?_) ?_
    · refine B2.ld (c := .int .i64) (x := k) (o := 0) rfl (C2.ld (c := .int .i64) (x := k2) (o := 0) rfl (ite_ok (fun h1 => hkj _ _ ⟨rfl, ?_⟩) fun h1 => ?_))
      · have h1 : kA ≠ kB := by rw [← ek, ← ek2]; simpa using h1
        rw [if_pos rfl, heq, decide_eq_false h1]
        rfl
      have h1 : kA = kB := by rw [← ek, ← ek2]; simpa using h1
      refine B2.ld (c := .str) (x := o) (o := 1) rfl (C2.ld (c := .str) (x := o2) (o := 1) rfl ?_)
      rw [eq_bl, eo, eo2]
      refine ite_ok (fun h2 => hkj _ _ ⟨rfl, ?_⟩) fun h2 => ?_
      · have h2 : (oA == oB) = false := by simpa using h2
        rw [if_pos rfl, heq, h2, Bool.and_false]
        rfl
      have h2 : oA = oB := by simpa using h2
      refine B2.ld (c := .str) (x := n) (o := 2) rfl (C2.ld (c := .str) (x := n2) (o := 2) rfl ?_)
      rw [eq_bl, en, en2]
      refine ite_ok (fun h3 => hkj _ _ ⟨rfl, ?_⟩) fun h3 => ?_
      · have h3 : (nA == nB) = false := by simpa using h3
        rw [if_pos rfl, heq, h3, Bool.and_false]
        rfl
      have h3 : nA = nB := by simpa using h3
      refine B2.ldS (o := 3) rfl (C2.ldS (o := 3) rfl (ite_ok (fun h4 => hkj _ _ ⟨rfl, ?_⟩) fun h4 => ?_))
      · have h4 : ((ns.n : Nat) : Int) ≠ (ns2.n : Nat) := by simpa using h4
        have h4 : (nsA == nsB) = false := by
          rw [beq_eq_false_iff_ne]
          intro e
          rw [e] at hnn
          omega
        rw [if_pos rfl, heq, h4, Bool.and_false]
        rfl
      have h4 : ((ns.n : Nat) : Int) = (ns2.n : Nat) := by simpa using h4
      refine B2.ldS (o := 4) rfl (C2.ldS (o := 4) rfl (hkj _ _ ⟨rfl, ?_⟩))
      by_cases h5 : psA.length = psB.length
      · rw [if_neg (by simp only [bne_iff_ne, ne_eq]; omega)]
        exact ⟨h1, h2, h3, by omega, h5⟩
      · rw [if_pos (by simp only [bne_iff_ne, ne_eq]; omega), heq]
        have : eqL psA psB = false := by
          rw [Bool.eq_false_iff]
          intro h
          exact h5 (eqL_len h)
        rw [this, Bool.and_false]
    rintro b w' ⟨rfl, hb⟩
    refine ite_ok (fun h => ?_) fun h => ?_
    · rw [h, if_pos rfl] at hb
      exact ⟨by rw [hb], F12⟩
    rw [h, if_neg (by simp)] at hb
    obtain ⟨h1, h2, h3, h4, h5⟩ := hb
    have heq2 : eqS (.mk kA oA nA nsA psA) (.mk kB oB nB nsB psB) = (nsA == nsB && eqL psA psB) := by
      rw [heq, h1, h2, h3]
      simp
    refine join0_ok (fun w3 => nsA = nsB ∧ Fr noB w' w3) (fun kend hkend => ?_) fun w3 ⟨hnm, F3⟩ => ?_
    · refine countL_ok nsA.length (by omega) (fun i w3 => (∀ j, j < i → nsA[j]? = nsB[j]?) ∧ Fr noB w' w3) (fun rec i w3 hi hI hrec => ?_) ⟨fun j h => by omega, Fr.refl _ _⟩
      obtain ⟨hdone, F3⟩ := hI
      have B3 := B2.fr F3 (fun h => h)
      refine B3.ldS (o := 3) rfl (ite_ok (fun hlt => ?_) fun hge => hkend _ ⟨?_, F3⟩)
      · have hlt : (i : Int) < (ns.n : Int) := of_decide_eq_true hlt
        obtain ⟨x, hx⟩ : ∃ x, nsA[i]? = some x := ⟨_, List.getElem?_eq_getElem (by omega)⟩
        obtain ⟨y, hy⟩ : ∃ y, nsB[i]? = some y := ⟨_, List.getElem?_eq_getElem (by omega)⟩
        refine join_in (vs := []) (drew_ok fun w4 F4 z4 => ?_)
        have F34 := F3.tr F4
        refine (B2.fr F34 (fun h => h)).ldS (o := 3) rfl (str_ld (hns.fr (F12.tr F34)) hx ((C2.fr F34 (fun h => h)).ldS (o := 3) rfl (str_ld (hns2.fr (F12.tr F34)) hy ?_)))
        rw [eq_bl, bl_bs, bl_bs]
        refine ite_ok (fun hne => ⟨?_, F12.tr F34⟩) fun he => hrec (by omega) _ ⟨fun j hj => ?_, F34⟩
        · have hne : x ≠ y := by simpa using hne
          have : (nsA == nsB) = false := by
            rw [beq_eq_false_iff_ne]
            intro e
            rw [e, hy] at hx
            exact hne (Option.some.inj hx).symm
          rw [heq2, this]
          rfl
        · have he : x = y := by simpa using he
          rcases Nat.lt_succ_iff_lt_or_eq.1 hj with hj | rfl
          · exact hdone j hj
          · rw [hx, hy, he]
      · have hge : ¬ (i : Int) < (ns.n : Int) := of_decide_eq_false hge
        apply List.ext_getElem?
        intro j
        by_cases hj : j < i
        · exact hdone j hj
        · rw [List.getElem?_eq_none (by omega), List.getElem?_eq_none (by omega)]
    have F123 := F12.tr F3
    have B3 := B2.fr F3 (fun h => h)
    have C3 := C2.fr F3 (fun h => h)
    rw [hnm] at heq2
    have heq3 : eqS (.mk kA oA nA nsA psA) (.mk kB oB nB nsB psB) = eqL psA psB := by
      rw [hnm, heq2]
      simp
    refine join0_ok (fun w4 => eqL psA psB = true ∧ Fr noB w w4) (fun kend hkend => ?_) fun w4 ⟨hp, F4⟩ => ⟨by rw [heq3, hp], F4⟩
    refine countL_ok psA.length (by omega) (fun i w4 => (∀ (j : Nat) (a b : Shape), j < i → psA[j]? = some a → psB[j]? = some b → eqS a b = true) ∧ Fr noB w3 w4) (fun rec i w4 hi hI hrec => ?_) ⟨fun j a b h => by omega, Fr.refl _ _⟩
    obtain ⟨hdone, F4⟩ := hI
    have B4 := B3.fr F4 (fun h => h)
    refine B4.ldS (o := 4) rfl (ite_ok (fun hlt => ?_) fun hge => hkend _ ⟨eqL_of h5 fun j a b ha hb => ?_, F123.tr F4⟩)
    · have hlt : (i : Int) < (ps.n : Int) := of_decide_eq_true hlt
      obtain ⟨x, hx⟩ : ∃ x, psA[i]? = some x := ⟨_, List.getElem?_eq_getElem (by omega)⟩
      obtain ⟨y, hy⟩ : ∃ y, psB[i]? = some y := ⟨_, List.getElem?_eq_getElem (by omega)⟩
      have hsz := size_mem (List.mem_of_getElem? hx)
      refine join_in (vs := []) (drew_ok fun w5 F5 z5 => ?_)
      have F45 := F4.tr F5
      have B5 := B3.fr F45 (fun h => h)
      have C5 := C3.fr F45 (fun h => h)
      refine B5.ldS (o := 4) rfl (part_ld (hps.fr (F123.tr F45)) hx hpn fun k1 o1 n1 ns1 ps1 hv1 => ?_)
      refine C5.ldS (o := 4) rfl (part_ld (hps2.fr (F123.tr F45)) hy hpn2 fun k3 o3 n3 ns3 ps3 hv3 => ?_)
      refine callB_ok (requal_ok d x y (by omega) hv1 hv3) fun w6 F6 => ?_
      refine keep_cons ((C5.fr F6 (fun h => h)).held1 rfl) (keep_cons ((B5.fr F6 (fun h => h)).held1 rfl) (keep_nil ?_))
      refine ite_ok (fun hne => ⟨?_, (F123.tr F45).tr F6⟩) fun he => hrec (by omega) _ ⟨fun j a b hj ha hb => ?_, F45.tr F6⟩
      · have hne : eqS x y = false := by simpa using hne
        rw [heq3]
        have : eqL psA psB = false := by
          rw [Bool.eq_false_iff]
          intro h
          rw [eqL_at h hx hy] at hne
          cases hne
        rw [this]
      · have he : eqS x y = true := by simpa using he
        rcases Nat.lt_succ_iff_lt_or_eq.1 hj with hj | rfl
        · exact hdone j a b hj ha hb
        · rw [hx] at ha
          rw [hy] at hb
          cases ha
          cases hb
          exact he
    · have hge : ¬ (i : Int) < (ps.n : Int) := of_decide_eq_false hge
      have := (List.getElem?_eq_some_iff.1 ha).1
      exact hdone j a b (by omega) ha hb
end Go.Proofs.YticokfpaoiekgaaGreatDoor
end
section
namespace Go.Lift
open Go.Shp
section
variable {R : Ending → World → Prop} {w : World}
theorem str_ldA {s : Sl} {l : List (List UInt8)} {i : Nat} {x : List UInt8} {K : Addr → ByteArray → G} (h : RdS w s (l.map bs)) (hx : l[i]? = some x) (hk : ∀ a, w.cell? a = some (.string (bs x)) → K a (bs x) R w) : idxG s.a s.n (i : Int) 1 (fun (a : Addr) => ldG .str a (K a)) R w := by
  have hi := (List.getElem?_eq_some_iff.1 hx).1
  obtain ⟨y, a, hy, ha, rd, hix⟩ := h.at (k := i) (by simpa using hi)
  rw [List.getElem?_map, hx] at hy
  cases hy
  rw [ha]
  exact hix (ld_ok (c := .str) (rd _ (Fr.refl _ _)) (hk _ (rd _ (Fr.refl _ _))))
theorem part_ld0 {w0 : World} {l : List Shape} {a : Option Addr} {len i : Nat} {s : Shape} {K : Int → ByteArray → ByteArray → Sl → Sl → G} (h : ShL w0 a 0 l) (F : Fr noB w0 w) (hs : l[i]? = some s) (hl : len = l.length)
    (hk : ∀ k o n ns ps, ShV w0 k o n ns ps s → K k o n ns ps R w) :
    idxG a len (i : Int) 5 (fun (x : Addr) => ldG (.int .i64) (x.add 0) (fun (k : Int) => ldG .str (x.add 1) (fun (o : ByteArray) => ldG .str (x.add 2) (fun (n : ByteArray) => ldG .slice (x.add 3) (fun (ns : Sl) => ldG .slice (x.add 4) (fun (ps : Sl) => K k o n ns ps)))))) R w := by
  obtain ⟨g, off, k, o, n, ns, ps, rfl, c0, c1, c2, c3, c4, hv⟩ := h.at hs
  have hi := (List.getElem?_eq_some_iff.1 hs).1
  rw [Nat.zero_add] at c0 c1 c2 c3 c4
  refine idxB_ok (n := len) (i := i) (by omega) ?_
  simp only [Addr.add_lit, Nat.add_zero]
  exact ld_ok (c := .int .i64) (F.cell c0 fun h => h) (ld_ok (c := .str) (F.cell c1 fun h => h) (ld_ok (c := .str) (F.cell c2 fun h => h) (ld_ok (c := .slice) (x := ns) (F.cell c3 fun h => h) (ld_ok (c := .slice) (x := ps) (F.cell c4 fun h => h) (hk k o n ns ps hv)))))
theorem st_fr {a b c : World} {m : Nat} (h : Fr (oneB m) a b) (k : Fr (oneB m) b c) : Fr (oneB m) a c := h.then k fun _ _ h => h
theorem fill_ok {m : Nat} {t : TypeId} {l : List Value} {v0 v1 v2 v3 v4 : Value} {k : G} (B : Blk w m t l) (hl : l.length = 5) (h0 : v0.oneCell' = true) (h1 : v1.oneCell' = true) (h2 : v2.oneCell' = true) (h3 : v3.oneCell' = true) (h4 : v4.oneCell' = true)
    (hk : ∀ w', Blk w' m t [v0, v1, v2, v3, v4] → Fr (oneB m) w w' → k R w') : stG ⟨m, 0, none⟩ v0 (stG ⟨m, 1, none⟩ v1 (stG ⟨m, 2, none⟩ v2 (stG ⟨m, 3, none⟩ v3 (stG ⟨m, 4, none⟩ v4 k)))) R w := by
  match l, hl with
  | [a, b, c, d, e], _ =>
    refine B.st h0 (by simp) fun w1 B1 F1 => B1.st h1 (by simp) fun w2 B2 F2 => B2.st h2 (by simp) fun w3 B3 F3 => B3.st h3 (by simp) fun w4 B4 F4 => B4.st h4 (by simp) fun w5 B5 F5 => ?_
    exact hk _ B5 (st_fr (st_fr (st_fr (st_fr F1 F2) F3) F4) F5)
theorem Fr.fill {a b c : World} {m : Nat} (h : Fr noB a b) (hm : a.heap.size ≤ m) (k : Fr (oneB m) b c) : Fr noB a c := h.then k fun x hx h => by unfold oneB at h; omega
theorem Blk.ldV {m : Nat} {t : TypeId} {k : Int} {o n : ByteArray} {ns ps : Sl} (B : Blk w m t (shCells k o n ns ps)) {K : Int → ByteArray → ByteArray → Sl → Sl → G} (h : K k o n ns ps R w) :
    ldG (.int .i64) ⟨m, 0, none⟩ (fun (k : Int) => ldG .str ⟨m, 1, none⟩ (fun (o : ByteArray) => ldG .str ⟨m, 2, none⟩ (fun (n : ByteArray) => ldG .slice ⟨m, 3, none⟩ (fun (ns : Sl) => ldG .slice ⟨m, 4, none⟩ (fun (ps : Sl) => K k o n ns ps))))) R w :=
  B.ld (c := .int .i64) (x := k) (o := 0) rfl (B.ld (c := .str) (x := o) (o := 1) rfl (B.ld (c := .str) (x := n) (o := 2) rfl (B.ldS (o := 3) rfl (B.ldS (o := 4) rfl h))))
theorem Blk.heldV {m : Nat} {t : TypeId} {k : Int} {o n : ByteArray} {ns ps : Sl} (B : Blk w m t (shCells k o n ns ps)) : Held w (⟨m, 0, none⟩, [.int .i64 k, .string o, .string n, .slice ns.a ns.n ns.c, .slice ps.a ps.n ps.c]) :=
  B.held fun j v hj => by rw [Nat.zero_add]; exact hj
end
end Go.Lift
namespace Go.Proofs.YticokfpaoiekgaaGreatDoor
open Go.Lift Go.Lex Go.Shp
section
variable {w : World}
def PartP (w0 w : World) (r : Option Shape) (e : Ending) (w' : World) : Prop := ∃ (k : Int) (o n : ByteArray) (ns ps : Sl), e = .returned (.tuple #[shArg k o n ns ps, .bool r.isSome]) ∧ Fr noB w w' ∧ ∀ q, r = some q → ShV w0 k o n ns ps q
theorem find_le {ns : List B} {ps : List Shape} {x : B} (h : ∀ i : Nat, ns[i]? ≠ some x) : find ns ps x = none := by
  induction ns generalizing ps with
  | nil => cases ps <;> rfl
  | cons y r ih =>
    cases ps with
    | nil => rfl
    | cons p ps =>
      unfold find
      rw [if_neg (fun e => h 0 (by rw [e]; rfl))]
      exact ih fun i => by simpa using h (i + 1)
theorem find_first : ∀ {ns : List B} {ps : List Shape} {x : B} {i : Nat} {q : Shape}, (∀ j, j < i → ns[j]? ≠ some x) → ns[i]? = some x → ps[i]? = some q → find ns ps x = some q
  | [], _, _, _, _, _, h, _ => by simp at h
  | _ :: _, [], _, _, _, _, _, h => by simp at h
  | y :: ns, p :: ps, x, 0, q, _, h1, h2 => by
    simp only [List.getElem?_cons_zero, Option.some.injEq] at h1 h2
    unfold find
    rw [if_pos h1, h2]
  | y :: ns, p :: ps, x, i + 1, q, h, h1, h2 => by
    unfold find
    rw [if_neg (fun e => h 0 (by omega) (by rw [e]; rfl))]
    exact find_first (i := i) (fun j hj => by simpa using h (j + 1) (by omega)) (by simpa using h1) (by simpa using h2)
def PartC (f : FuncId) : Prop := ∀ {w0 w : World} {k : Int} {o n : ByteArray} {ns ps : Sl} {s : Shape} (x : ByteArray), ShV w0 k o n ns ps s → Fr noB w0 w → s.names.length = s.parts.length → Calls Tryz.prog f #[shArg k o n ns ps, .string x] w (PartP w0 w (find s.names s.parts (bl x)))
theorem rpart_ok : PartC 78 := by
  intro w0 w k o n ns ps s x hv F0 hlen
  obtain ⟨_, _, _, ⟨hns, hnl, hpn, hpl, _⟩, hps⟩ := hv.parts
  have hnn := hns.1
  rw [List.length_map] at hnn
  apply c78
  unfold t78
  refine new_ok fun w1 m6 hm6 hs1 B1 F1 => new_ok fun w2 m7 hm7 hs2 C2 F2 => ?_
  have B2 := B1.fr F2 (fun h => h)
  change Blk w2 m6 _ (shCells k o n ns ps) at B2
  have F12 := F1.tr F2
  have h67 : m6 ≠ m7 := by omega
  have hw7 : w.heap.size ≤ m7 := by omega
  refine join0_ok (fun w' => find s.names s.parts (bl x) = none ∧ Fr noB w2 w') (fun kend hkend => ?_) fun w3 ⟨hf, F3⟩ => ?_
  · refine countL_ok s.names.length (by omega) (fun i w3 => (∀ j, j < i → s.names[j]? ≠ some (bl x)) ∧ Fr noB w2 w3) (fun rec i w3 hi hI hrec => ?_) ⟨fun j h => by omega, Fr.refl _ _⟩
    obtain ⟨hdone, F3⟩ := hI
    have B3 := B2.fr F3 (fun h => h)
    refine B3.ldS (o := 3) rfl (ite_ok (fun hlt => ?_) fun hge => hkend _ ⟨find_le fun j hj => ?_, F3⟩)
    · have hlt : (i : Int) < (ns.n : Int) := of_decide_eq_true hlt
      obtain ⟨y, hy⟩ : ∃ y, s.names[i]? = some y := ⟨_, List.getElem?_eq_getElem (by omega)⟩
      obtain ⟨q, hq⟩ : ∃ q, s.parts[i]? = some q := ⟨_, List.getElem?_eq_getElem (by omega)⟩
      refine join_in (vs := []) (B3.ldS (o := 3) rfl (str_ld (hns.fr (F0.tr (F12.tr F3))) hy ?_))
      rw [eq_bl, bl_bs]
      refine ite_ok (fun he => ?_) fun hne => hrec (by omega) _ ⟨fun j hj => ?_, F3⟩
      · have he : y = bl x := by simpa using he
        refine B3.ldS (o := 4) rfl (part_ld0 hps (F0.tr (F12.tr F3)) hq hpn fun k1 o1 n1 ns1 ps1 hv1 => ?_)
        refine fill_ok (C2.fr F3 (fun h => h)) rfl rfl rfl rfl rfl rfl fun w4 C4 F4 => ?_
        change Blk w4 m7 _ (shCells k1 o1 n1 ns1 ps1) at C4
        have F24 : Fr noB w w4 := (F12.tr F3).fill hw7 F4
        refine C4.ldV ⟨k1, o1, n1, ns1, ps1, ?_, F24, fun r hr => ?_⟩
        · rw [find_first hdone (by rw [hy, he]) hq]
          rfl
        · rw [find_first hdone (by rw [hy, he]) hq] at hr
          cases hr
          exact hv1
      · have hne : y ≠ bl x := by simpa using hne
        rcases Nat.lt_succ_iff_lt_or_eq.1 hj with hj | rfl
        · exact hdone j hj
        · rw [hy]
          intro e
          exact hne (Option.some.inj e)
    · have hge : ¬ (i : Int) < (ns.n : Int) := of_decide_eq_false hge
      have := (List.getElem?_eq_some_iff.1 hj).1
      exact hdone j (by omega) hj
  · rw [hf]
    refine fill_ok (C2.fr F3 (fun h => h)) rfl rfl rfl rfl rfl rfl fun w4 C4 F4 => ?_
    change Blk w4 m7 _ (shCells 0 (ByteArray.mk #[]) (ByteArray.mk #[]) ⟨none, 0, 0⟩ ⟨none, 0, 0⟩) at C4
    exact C4.ldV ⟨0, ByteArray.mk #[], ByteArray.mk #[], ⟨none, 0, 0⟩, ⟨none, 0, 0⟩, rfl, (F12.tr F3).fill hw7 F4, fun q hq => by cases hq⟩
theorem callPart_ok {w0 : World} {R : Ending → World → Prop} {f : FuncId} {args : Array Value} {r : Option Shape} (hc : Calls Tryz.prog f args w (PartP w0 w r)) {K : Int → ByteArray → ByteArray → Sl → Sl → Bool → G}
    (h : ∀ k o n ns ps w', Fr noB w w' → (∀ q, r = some q → ShV w0 k o n ns ps q) → K k o n ns ps r.isSome R w') : callG Tryz.prog f args [.agg [.int .i64, .str, .str, .slice, .slice], .one .bool] K R w :=
  call_ok hc fun _ w' ⟨k, o, n, ns, ps, he, F, hv⟩ => ⟨((k, o, n, ns, ps, ()), ((r.isSome, ()), ())), he, h k o n ns ps w' F hv⟩
end
end Go.Proofs.YticokfpaoiekgaaGreatDoor
end
