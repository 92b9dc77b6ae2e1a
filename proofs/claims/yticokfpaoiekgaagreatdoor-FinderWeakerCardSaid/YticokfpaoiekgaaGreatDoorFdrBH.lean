/- The law behind: one part of its proof (joined by program out of my own texts). No condition. -/
import Derived.Test.YticokfpaoiekgaaGreatDoorFdrBG
section
namespace Go.Proofs.YticokfpaoiekgaaGreatDoor
open Go.Lift Go.Lex Go.Shp
theorem flat_len {α : Type} {Bs : List (List α)} {k : Nat} (h : ∀ B ∈ Bs, B.length = k) : Bs.flatten.length = Bs.length * k := by
 induction Bs with
 | nil => simp
 | cons B Bs ih =>
  rw [List.flatten_cons, List.length_append, h B (by simp), ih fun x hx => h x (by simp [hx]), List.length_cons, Nat.succ_mul]
  omega
def Blocks (k : Nat) (Bs : List (List HV3)) : Prop := ∀ B ∈ Bs, B.length = k ∧ Down (hvs B)
theorem stable_ok {w : World} {b n c : Nat} {T : TypeId} {rest : List Value} {fv : Value} {V : List HV3} (hf : CmpH fv) (h : HRow w b T V rest) (hn : n = V.length) (hb : n ≤ 1000000) :
  Calls Tryz.prog 83 #[.slice (some ⟨b, 0, none⟩) n c, .int .i64 (n : Int), fv] w (RowP b T rest w fun V' => hvs V' = sortH (hvs V)) := by
 refine c83 ⟨some ⟨b, 0, none⟩, n, c⟩ _ _ ?_
 unfold t83 wrZ ivZ svZ ca0Z jn0Z jnIZ lpIZ lpIIZ
 refine join1_ok (c := .int .i64) (fun (a : Int) w' => ∃ Bs Rm, Blocks 20 Bs ∧ a = (Bs.flatten.length : Int) ∧ Rm.length < 20 ∧ HRow w' b T (Bs.flatten ++ Rm) rest ∧ (hvs (Bs.flatten ++ Rm)).Perm (hvs V) ∧ Fr (oneB b) w w') (fun kj hkj => ?_) ?_
 ·refine loop_ok (vs := [.one (.int .i64), .one (.int .i64)]) (fun xs w' => ∃ Bs Rm, Blocks 20 Bs ∧ (show Int from xs.1.1) = (Bs.flatten.length : Int) ∧ (show Int from xs.2.1.1) = ((Bs.flatten.length + 20 : Nat) : Int) ∧ HRow w' b T (Bs.flatten ++ Rm) rest ∧ (hvs (Bs.flatten ++ Rm)).Perm (hvs V) ∧ Fr (oneB b) w w')
   (fun xs => n + 1 - (show Int from xs.1.1).toNat) ?_ (xs := (((0 : Int), ()), (((20 : Int), ()), ()))) ⟨[], V, fun B hB => by simp at hB, rfl, rfl, h, List.Perm.refl _, Fr.refl _ _⟩
  rintro rec ⟨⟨a, ⟨⟩⟩, ⟨⟨e, ⟨⟩⟩, ⟨⟩⟩⟩ w1 ⟨Bs, Rm, hB, ha, he, h1, hp, F1⟩ hrec
  change a = _ at ha
  change e = _ at he
  subst ha he
  have hl : Bs.flatten.length + Rm.length = n := by have := hp.length_eq; rw [hvs, hvs, List.length_map, List.length_map, List.length_append] at this; omega
  refine ite_ok (fun hle => ?_) fun hgt => ?_
  rotate_left
  ·have hgt : ¬ ((Bs.flatten.length + 20 : Nat) : Int) ≤ (n : Int) := of_decide_eq_false hgt
   exact hkj _ _ ⟨Bs, Rm, hB, rfl, by omega, h1, hp, F1⟩
  have hle : ((Bs.flatten.length + 20 : Nat) : Int) ≤ (n : Int) := of_decide_eq_true hle
  obtain ⟨X, Rm, rfl, hX⟩ := part_at Rm 20 (by omega)
  refine join_in (vs := [.one (.int .i64), .one (.int .i64)]) ?_
  have hi := insertionH_ok (n := n) (c := c) hf h1 (by rw [List.length_append, hl]) hb
  rw [hX] at hi
  refine callRow_ok hi ?_
  rintro V' w2 ⟨W, rfl, g1, g2, g3⟩ h2 F2
  have ew : IntKind.wrap .i64 (((Bs.flatten.length + 20 : Nat) : Int) + 20) = ((Bs.flatten.length + 20 + 20 : Nat) : Int) := wr (by omega) (by omega)
  have hfl : (Bs ++ [W]).flatten = Bs.flatten ++ W := by simp
  refine hrec ((_, ()), ((_, ()), ())) _ ⟨Bs ++ [W], Rm, fun B hB' => ?_, by rw [hfl, List.length_append]; show ((Bs.flatten.length + 20 : Nat) : Int) = _; omega, by rw [hfl, List.length_append]; refine ew.trans ?_; omega, by rw [hfl, List.append_assoc]; exact h2, ?_, st_fr F1 F2⟩ ?_
  ·rcases List.mem_append.1 hB' with hB' | hB'
   ·exact hB B hB'
   ·rw [List.mem_singleton.1 hB']
    exact ⟨by omega, g3⟩
  ·refine List.Perm.trans ?_ hp
   rw [hfl, List.append_assoc, hvs_append, hvs_append, hvs_append, hvs_append]
   exact List.Perm.append_left _ (List.Perm.append_right _ g2)
  ·show n + 1 - (((Bs.flatten.length + 20 : Nat) : Int)).toNat < n + 1 - ((Bs.flatten.length : Int)).toNat
   simp only [Int.toNat_natCast]
   omega
 rintro a w1 ⟨Bs, Rm, hB, rfl, hR, h1, hp, F1⟩
 have hl : Bs.flatten.length + Rm.length = n := by have := hp.length_eq; rw [hvs, hvs, List.length_map, List.length_map, List.length_append] at this; omega
 have h1' : HRow w1 b T (Bs.flatten ++ (Rm ++ [])) rest := by rw [List.append_nil]; exact h1
 have hi := insertionH_ok (n := n) (c := c) hf h1' (by rw [← hl, List.length_append, List.append_nil]) hb
 rw [hl] at hi
 refine callRow_ok hi ?_
 rintro V' w2 ⟨R2, rfl, g1, g2, g3⟩ h2 F2
 rw [List.append_nil] at h2
 refine join0_ok (fun w' => ∃ k Bs Rm, 0 < k ∧ n ≤ k ∧ Blocks k Bs ∧ Rm.length < k ∧ Down (hvs Rm) ∧ HRow w' b T (Bs.flatten ++ Rm) rest ∧ (hvs (Bs.flatten ++ Rm)).Perm (hvs V) ∧ Fr (oneB b) w w') (fun kj hkj => ?_) ?_
 rotate_left
 ·rintro w3 ⟨k, Bs, Rm, hk, hnk, hB, hR, dR, h3, hp3, F3⟩
  refine ⟨rfl, _, ?_, h3, F3⟩
  refine down_sortH ?_ hp3
  have hl3 : Bs.flatten.length + Rm.length = n := by have := hp3.length_eq; rw [hvs, hvs, List.length_map, List.length_map, List.length_append] at this; omega
  have hfl := flat_len fun B hx => (hB B hx).1
  match Bs, hB with
  | [], _ => simpa using dR
  | [B], hB =>
   obtain ⟨e1, e2⟩ := hB B (by simp)
   simp only [List.flatten_cons, List.flatten_nil, List.append_nil] at hl3 hfl ⊢
   have : Rm = [] := List.eq_nil_of_length_eq_zero (by omega)
   rw [this, List.append_nil]
   exact e2
  | B1 :: B2 :: Bs, hB =>
   rw [List.length_cons, List.length_cons, Nat.succ_mul, Nat.succ_mul] at hfl
   omega
 ·refine loop1_ok (c := .int .i64) (fun (i : Int) w' => ∃ (k : Nat) (Bs : List (List HV3)) (Rm : List HV3), i = (k : Int) ∧ 0 < k ∧ k ≤ 20 + 2 * n ∧ Blocks k Bs ∧ Rm.length < k ∧ Down (hvs Rm) ∧ HRow w' b T (Bs.flatten ++ Rm) rest ∧ (hvs (Bs.flatten ++ Rm)).Perm (hvs V) ∧ Fr (oneB b) w w') (fun (i : Int) => n - i.toNat) ?_
   ⟨20, Bs, R2, rfl, by omega, by omega, hB, by omega, g3, h2, ?_, st_fr F1 F2⟩
  rotate_left
  ·refine List.Perm.trans ?_ hp
   rw [hvs_append, hvs_append]
   exact List.Perm.append_left _ g2
  clear hR hp h1 h1' hi h2 g1 g2 g3 hl hB F1 F2 Rm R2 Bs w1 w2
  rintro rec i w1 ⟨k, Bs, Rm, rfl, hk, hk2, hB, hR, dR, h1, hp, F1⟩ hrec
  refine ite_ok (fun hlt => ?_) fun hge => hkj _ ⟨k, Bs, Rm, hk, ?_, hB, hR, dR, h1, hp, F1⟩
  rotate_left
  ·have hge : ¬ (k : Int) < (n : Int) := of_decide_eq_false hge
   omega
  have hlt : (k : Int) < (n : Int) := of_decide_eq_true hlt
  have e2k : IntKind.wrap .i64 (2 * (k : Int)) = ((2 * k : Nat) : Int) := wr (by omega) (by omega)
  have ek2 : IntKind.wrap .i64 ((k : Int) * 2) = ((2 * k : Nat) : Int) := wr (by omega) (by omega)
  refine join_in (vs := [.one (.int .i64)]) ?_
  rw [e2k, ek2]
  refine join1_ok (c := .int .i64) (fun (a : Int) w' => ∃ Ds Bs, Blocks (2 * k) Ds ∧ Blocks k Bs ∧ a = (Ds.flatten.length : Int) ∧ n < Ds.flatten.length + 2 * k ∧ HRow w' b T (Ds.flatten ++ (Bs.flatten ++ Rm)) rest ∧ (hvs (Ds.flatten ++ (Bs.flatten ++ Rm))).Perm (hvs V) ∧ Fr (oneB b) w w') (fun kj2 hkj2 => ?_) ?_
  ·refine loop_ok (vs := [.one (.int .i64), .one (.int .i64)]) (fun xs w' => ∃ Ds Bs, Blocks (2 * k) Ds ∧ Blocks k Bs ∧ (show Int from xs.1.1) = (Ds.flatten.length : Int) ∧ (show Int from xs.2.1.1) = ((Ds.flatten.length + 2 * k : Nat) : Int) ∧ HRow w' b T (Ds.flatten ++ (Bs.flatten ++ Rm)) rest ∧ (hvs (Ds.flatten ++ (Bs.flatten ++ Rm))).Perm (hvs V) ∧ Fr (oneB b) w w')
    (fun xs => n + 1 - (show Int from xs.1.1).toNat) ?_ (xs := (((0 : Int), ()), ((((2 * k : Nat) : Int), ()), ()))) ⟨[], Bs, fun B hB => by simp at hB, hB, rfl, by simp, h1, hp, F1⟩
   clear hB hp h1 F1 Bs w1
   rintro rec2 ⟨⟨a, ⟨⟩⟩, ⟨⟨e, ⟨⟩⟩, ⟨⟩⟩⟩ w1 ⟨Ds, Bs, hD, hB, ha, he, h1, hp, F1⟩ hrec2
   change a = _ at ha
   change e = _ at he
   subst ha he
   have hl : Ds.flatten.length + (Bs.flatten.length + Rm.length) = n := by have := hp.length_eq; rw [hvs, hvs, List.length_map, List.length_map, List.length_append, List.length_append] at this; omega
   have hfl := flat_len fun B hx => (hB B hx).1
   refine ite_ok (fun hle => ?_) fun hgt => ?_
   rotate_left
   ·have hgt : ¬ ((Ds.flatten.length + 2 * k : Nat) : Int) ≤ (n : Int) := of_decide_eq_false hgt
    exact hkj2 _ _ ⟨Ds, Bs, hD, hB, rfl, by omega, h1, hp, F1⟩
   have hle : ((Ds.flatten.length + 2 * k : Nat) : Int) ≤ (n : Int) := of_decide_eq_true hle
   obtain ⟨B1, B2, Bs, rfl⟩ : ∃ B1 B2 Bs', Bs = B1 :: B2 :: Bs' := by
    match Bs, hfl, hl with
    | [], hfl, hl => simp only [List.flatten_nil, List.length_nil] at hl; omega
    | [B], hfl, hl => simp only [List.length_cons, List.length_nil] at hfl; omega
    | B1 :: B2 :: Bs, _, _ => exact ⟨B1, B2, Bs, rfl⟩
   obtain ⟨l1, d1⟩ := hB B1 (by simp)
   obtain ⟨l2, d2⟩ := hB B2 (by simp)
   have em : IntKind.wrap .i64 ((Ds.flatten.length : Int) + (k : Int)) = ((Ds.flatten.length + k : Nat) : Int) := wr (by omega) (by omega)
   have h1' : HRow w1 b T (Ds.flatten ++ (B1 ++ (B2 ++ (Bs.flatten ++ Rm)))) rest := by simpa only [List.flatten_cons, List.append_assoc] using h1
   have hm := symMerge_ok (n := n) (c := c) hf hb _ (Nat.le_refl _) (by omega) (by omega) d1 d2 h1' (by rw [← hl]; simp only [List.flatten_cons, List.length_append]; omega)
   rw [l1, l2, show Ds.flatten.length + k + k = Ds.flatten.length + 2 * k by omega] at hm
   refine join_in (vs := [.one (.int .i64), .one (.int .i64)]) ?_
   rw [em]
   refine callRow_ok hm ?_
   rintro V' w2 ⟨W, rfl, g1, g2, g3⟩ h2 F2
   have ew : IntKind.wrap .i64 (((Ds.flatten.length + 2 * k : Nat) : Int) + ((2 * k : Nat) : Int)) = ((Ds.flatten.length + 2 * k + 2 * k : Nat) : Int) := wr (by omega) (by omega)
   have hfD : (Ds ++ [W]).flatten = Ds.flatten ++ W := by simp
   refine hrec2 ((_, ()), ((_, ()), ())) _ ⟨Ds ++ [W], Bs, fun B hB' => ?_, fun B hB' => hB B (by simp [hB']), by rw [hfD, List.length_append]; show ((Ds.flatten.length + 2 * k : Nat) : Int) = _; omega, by rw [hfD, List.length_append]; refine ew.trans ?_; omega, by rw [hfD, List.append_assoc]; exact h2, ?_, st_fr F1 F2⟩ ?_
   ·rcases List.mem_append.1 hB' with hB' | hB'
    ·exact hD B hB'
    ·rw [List.mem_singleton.1 hB']
     exact ⟨by omega, g3⟩
   ·refine List.Perm.trans ?_ hp
    rw [hfD, List.append_assoc, hvs_append, hvs_append, List.flatten_cons, List.flatten_cons, List.append_assoc, List.append_assoc, hvs_append Ds.flatten, hvs_append B1, hvs_append B2]
    refine List.Perm.append_left _ ?_
    rw [← List.append_assoc]
    exact List.Perm.append_right _ g2
   ·show n + 1 - (((Ds.flatten.length + 2 * k : Nat) : Int)).toNat < n + 1 - ((Ds.flatten.length : Int)).toNat
    simp only [Int.toNat_natCast]
    omega
  clear hB hp h1 F1 Bs w1
  rintro a w1 ⟨Ds, Bs, hD, hB, rfl, hlast, h1, hp, F1⟩
  have hl : Ds.flatten.length + (Bs.flatten.length + Rm.length) = n := by have := hp.length_eq; rw [hvs, hvs, List.length_map, List.length_map, List.length_append, List.length_append] at this; omega
  have hfl := flat_len fun B hx => (hB B hx).1
  have em : IntKind.wrap .i64 ((Ds.flatten.length : Int) + (k : Int)) = ((Ds.flatten.length + k : Nat) : Int) := wr (by omega) (by omega)
  rw [em]
  have go : ∀ (R3 : List HV3) (w2 : World), R3.length = Bs.flatten.length + Rm.length → Down (hvs R3) → (hvs R3).Perm (hvs (Bs.flatten ++ Rm)) → HRow w2 b T (Ds.flatten ++ R3) rest → Fr (oneB b) w w2 → rec ((2 * k : Nat) : Int) (fun e w' => RowP b T rest w (fun V' => hvs V' = sortH (hvs V)) e w') w2 := by
   intro R3 w2 q1 q2 q3 q4 q5
   refine hrec _ _ ⟨2 * k, Ds, R3, rfl, by omega, by omega, hD, by omega, q2, q4, ?_, q5⟩ ?_
   ·refine List.Perm.trans ?_ hp
    rw [hvs_append, hvs_append]
    exact List.Perm.append_left _ q3
   ·simp only [Int.toNat_natCast]
    omega
  have hBs : Bs = [] ∨ ∃ B, Bs = [B] := by
   match Bs, hfl, hl with
   | [], _, _ => exact .inl rfl
   | [B], _, _ => exact .inr ⟨B, rfl⟩
   | B1 :: B2 :: Bs, hfl, hl =>
    have : 2 * k ≤ (B1 :: B2 :: Bs).flatten.length := by
     rw [hfl]
     exact Nat.mul_le_mul_right k (by simp)
    exact absurd (Nat.lt_of_lt_of_le hlast (Nat.le_trans (Nat.add_le_add_left (Nat.le_trans this (Nat.le_add_right _ Rm.length)) _) (Nat.le_of_eq hl))) (Nat.lt_irrefl _)
  refine join_in (vs := []) (ite_ok (fun hlt2 => ?_) fun hge2 => ?_)
  ·have hlt2 : ((Ds.flatten.length + k : Nat) : Int) < (n : Int) := of_decide_eq_true hlt2
   rcases hBs with rfl | ⟨B, rfl⟩
   ·simp only [List.flatten_nil, List.length_nil] at hl
    omega
   obtain ⟨l1, d1⟩ := hB B (by simp)
   simp only [List.flatten_cons, List.flatten_nil, List.append_nil] at hl h1 go
   have h1' : HRow w1 b T (Ds.flatten ++ (B ++ (Rm ++ []))) rest := by rw [List.append_nil]; exact h1
   have hm := symMerge_ok (n := n) (c := c) hf hb _ (Nat.le_refl _) (by omega) (by omega) d1 dR h1' (by rw [← hl]; simp only [List.length_append, List.append_nil])
   rw [l1, show Ds.flatten.length + k + Rm.length = n by omega] at hm
   refine callRow_ok hm ?_
   rintro V' w2 ⟨W, rfl, q1, q2, q3⟩ h2 F2
   rw [List.append_nil] at h2
   exact go W w2 (by omega) q3 (by rw [hvs_append]; exact q2) h2 (st_fr F1 F2)
  ·have hge2 : ¬ ((Ds.flatten.length + k : Nat) : Int) < (n : Int) := of_decide_eq_false hge2
   rcases hBs with rfl | ⟨B, rfl⟩
   ·simp only [List.flatten_nil, List.nil_append, List.length_nil, Nat.zero_add] at h1 go
    exact go Rm w1 rfl dR (List.Perm.refl _) h1 F1
   obtain ⟨l1, d1⟩ := hB B (by simp)
   simp only [List.flatten_cons, List.flatten_nil, List.append_nil] at hl h1 go
   have : Rm = [] := List.eq_nil_of_length_eq_zero (by omega)
   subst this
   rw [List.append_nil] at h1 go
   exact go B w1 rfl d1 (List.Perm.refl _) h1 F1
theorem sortStable_ok {w : World} {b n c : Nat} {T : TypeId} {rest : List Value} {fv : Value} {V : List HV3} (hf : CmpH fv) (h : HRow w b T V rest) (hn : n = V.length) (hb : n ≤ 1000000) :
  Calls Tryz.prog 51 #[.slice (some ⟨b, 0, none⟩) n c, fv] w (RowP b T rest w fun V' => hvs V' = sortH (hvs V)) := by
 refine c51 ⟨some ⟨b, 0, none⟩, n, c⟩ _ ?_
 unfold t51 ivZ svZ ca0Z
 refine callRow_ok (stable_ok hf h hn hb) ?_
 rintro V' w' hQ h' F
 exact ⟨rfl, V', hQ, h', F⟩
end Go.Proofs.YticokfpaoiekgaaGreatDoor
end
section
namespace Go.Proofs.YticokfpaoiekgaaGreatDoor
open Go.Lift Go.Lex Go.Shp
theorem src_of_own {w : World} {e : TypeId} {sz : Nat} {l : Sl} {xs : List Value} {n : Nat} (h : w.ownsRow 0 e sz (.slice l.a l.n l.c) n xs) : SrcC w l sz xs ∧ l.n = n := by
 have hx := h.1
 obtain ⟨a, n', c⟩ := l
 rcases h.2 with ⟨h1, h2⟩ | ⟨g, cap, cur, h1, _⟩
 ·cases h1
  exact ⟨⟨by rw [hx, h2], fun _ => ⟨rfl, rfl⟩, fun ad ha => by cases ha⟩, h2.symm⟩
 ·cases h1
  have hc := h.cells (g := g) rfl
  refine ⟨⟨hx, (fun ha => nomatch ha), fun ad ha j u hj => ?_⟩, rfl⟩
  cases ha
  exact hc j u hj
def HitsP (w : World) (H : List Hit) (e : Ending) (w' : World) : Prop := ∃ (l : Sl) (V : List HV3), e = .returned (.slice l.a l.n l.c) ∧ hvs V = H ∧ (l.n = V.length ∧ l.n ≤ l.c) ∧ SrcC w' l 3 (V.flatMap hvCells) ∧ Fr noB w w'
theorem callHits_ok {R : Ending → World → Prop} {w : World} {H : List Hit} {f : FuncId} {args : Array Value} (hc : Calls Tryz.prog f args w (HitsP w H)) {K : Sl → G} (h : ∀ (l : Sl) V w', hvs V = H → (l.n = V.length ∧ l.n ≤ l.c) → SrcC w' l 3 (V.flatMap hvCells) → Fr noB w w' → K l R w') : callG Tryz.prog f args [.one .slice] K R w :=
 call_ok hc fun _ w' ⟨l, V, he, h1, h2, h3, F⟩ => ⟨((l, ()), ()), he, h l V w' h1 h2 h3 F⟩
theorem clone_ok {w : World} {l : Sl} {V : List HV3} (hs : SrcC w l 3 (V.flatMap hvCells)) (hn : l.n = V.length) (hb : V.length ≤ 1000000) : Calls Tryz.prog 56 #[.slice l.a l.n l.c] w (HitsP w (hvs V)) := by
 obtain ⟨iH, zH, hiH, hzH, s1, s2, s3⟩ := infoHit
 refine c56 l ?_
 unfold t56 svZ nwZ
 refine ite_ok (fun h => ?_) fun h => ?_
 ·have ha : l.a = none := by simpa using h
  have h0 := (hs.2.1 ha).1
  have : V = [] := List.eq_nil_of_length_eq_zero (by omega)
  subst this
  exact ⟨⟨none, 0, 0⟩, [], rfl, rfl, ⟨rfl, Nat.le_refl _⟩, ⟨rfl, fun _ => ⟨rfl, rfl⟩, fun ad ha => by cases ha⟩, Fr.refl _ _⟩
 refine new_ok fun w1 m1 hm1 hs1 B1 F1 => ?_
 refine appendR_ok uHits hiH hzH s1 s2 s3 (by omega) (s := ⟨some ⟨m1, 0, none⟩, 0, 0⟩) (own_new (size := 3) B1) (q := l) (hs.fr F1) (fun u hu => hv_one u hu) (by unfold maxLen; omega) (by omega) fun l2 w2 own2 F2 ha2 => ?_
 rw [List.nil_append, Nat.zero_add] at own2
 obtain ⟨hs2, hn2⟩ := src_of_own own2
 refine ⟨l2, V, rfl, rfl, ⟨by omega, (src_own own2 (Nat.zero_le _)).1 ▸ (src_own own2 (Nat.zero_le _)).2.1⟩, hs2, F1.then F2 fun x hx ⟨a, h1, h2⟩ => ?_⟩
 cases h1
 rw [← h2] at hx
 change m1 < _ at hx
 omega
theorem sortStable_none {w : World} {fv : Value} : Calls Tryz.prog 51 #[.slice none 0 0, fv] w fun e w' => e = .returned (.tuple #[]) ∧ w' = w := by
 have hins : Calls Tryz.prog 110 #[.slice none 0 0, .int .i64 0, .int .i64 0, fv] w fun e w' => e = .returned (.tuple #[]) ∧ w' = w := by
  refine c110 ⟨none, 0, 0⟩ _ _ _ ?_
  unfold t110 wrZ ivZ tvZ ld3xZ jn0Z jnBZ lpIZ ixZ
  refine join0_ok (fun w' => w' = w) (fun kj hkj => ?_) fun w' h => ⟨rfl, h⟩
  refine loop1_ok (c := .int .i64) (fun (y : Int) w' => y = 1 ∧ w' = w) (fun _ => 0) ?_ ⟨rfl, rfl⟩
  rintro rec y w1 ⟨rfl, rfl⟩ hrec
  refine ite_no ?_ (hkj _ rfl)
  rfl
 have hst : Calls Tryz.prog 83 #[.slice none 0 0, .int .i64 0, fv] w fun e w' => e = .returned (.tuple #[]) ∧ w' = w := by
  refine c83 ⟨none, 0, 0⟩ _ _ ?_
  unfold t83 wrZ ivZ svZ ca0Z jn0Z jnIZ lpIZ lpIIZ
  refine join1_ok (c := .int .i64) (fun (a : Int) w' => a = 0 ∧ w' = w) (fun kj hkj => ?_) ?_
  ·refine loop_ok (vs := [.one (.int .i64), .one (.int .i64)]) (fun xs w' => (show Int from xs.1.1) = 0 ∧ (show Int from xs.2.1.1) = 20 ∧ w' = w) (fun _ => 0) ?_ (xs := (((0 : Int), ()), (((20 : Int), ()), ()))) ⟨rfl, rfl, rfl⟩
   rintro rec ⟨⟨a, ⟨⟩⟩, ⟨⟨e, ⟨⟩⟩, ⟨⟩⟩⟩ w1 ⟨ha, he, rfl⟩ hrec
   change a = _ at ha
   change e = _ at he
   subst ha he
   simp only [uncV, unc]
   refine ite_ok (fun h => ?_) fun h => ?_
   ·have h : (20 : Int) ≤ 0 := of_decide_eq_true h
    omega
   ·exact hkj _ _ ⟨rfl, rfl⟩
  rintro a w1 ⟨rfl, rfl⟩
  refine call_ok hins ?_
  rintro e w2 ⟨rfl, rfl⟩
  refine ⟨(), rfl, ?_⟩
  refine join0_ok (fun w' => w' = w2) (fun kj hkj => ?_) fun w' h => ⟨rfl, h⟩
  refine loop1_ok (c := .int .i64) (fun (y : Int) w' => y = 20 ∧ w' = w2) (fun _ => 0) ?_ ⟨rfl, rfl⟩
  rintro rec y w1 ⟨rfl, rfl⟩ hrec
  refine ite_no ?_ (hkj _ rfl)
  rfl
 refine c51 ⟨none, 0, 0⟩ _ ?_
 unfold t51 ivZ svZ ca0Z
 refine call_ok hst ?_
 rintro e w2 ⟨rfl, rfl⟩
 exact ⟨(), rfl, rfl, rfl⟩
theorem sortOwn_ok {R : Ending → World → Prop} {w : World} {l : Sl} {V : List HV3} {fv : Value} (hf : CmpH fv) (h : w.ownsRow 0 46 3 (.slice l.a l.n l.c) V.length (V.flatMap hvCells)) (hb : V.length ≤ 1000000) {k : G}
  (hk : ∀ V' w', hvs V' = sortH (hvs V) → w'.ownsRow 0 46 3 (.slice l.a l.n l.c) V'.length (V'.flatMap hvCells) → Fr (fun b => ∃ a, l.a = some a ∧ a.block = b) w w' → k R w') :
  callG Tryz.prog 51 #[.slice l.a l.n l.c, fv] [] k R w := by
 rcases h.2 with ⟨h1, h2⟩ | ⟨g, cap, cur, h1, h0, hg, h3, h4, h5, h6⟩
 ·obtain ⟨a, n, c⟩ := l
  cases h1
  have : V = [] := List.eq_nil_of_length_eq_zero h2
  subst this
  refine call_ok sortStable_none ?_
  rintro e w2 ⟨rfl, rfl⟩
  exact ⟨(), rfl, hk [] _ rfl h (Fr.refl _ _)⟩
 ·obtain ⟨a, n, c⟩ := l
  cases h1
  change V.length ≤ c at h3
  have hcs : (V.flatMap hvCells).length = V.length * 3 := h.1
  have hB : HRow w g 46 V (cur.toList.drop (V.length * 3)) := by
   unfold HRow Blk
   rw [hg, ← h6, List.take_append_drop]
  refine callRow_ok (sortStable_ok hf hB rfl hb) fun V' w' hQ h' F => hk V' w' hQ ?_ (F.mono fun x _ hx => ⟨_, rfl, hx.symm⟩)
  have hl : V'.length = V.length := by
   have h7 := (sortH_perm (hvs V)).length_eq
   rw [← hQ, hvs, hvs, List.length_map, List.length_map] at h7
   exact h7
  have hcs' : (V'.flatMap hvCells).length = V'.length * 3 := flat_length hvCells 3 (fun _ _ => rfl)
  show w'.ownsRow 0 _ 3 (.slice (some ⟨g, 0, none⟩) V.length c) _ _
  rw [← hl]
  refine ⟨hcs', .inr ⟨g, c, _, rfl, Nat.zero_le _, h', by omega, h4, ?_, ?_⟩⟩
  ·rw [List.size_toArray, List.length_append, hcs', List.length_drop]
   change V.length ≤ c at h3
   have h7 : cur.toList.length = c * 3 := h5
   rw [h7]
   omega
  ·rw [List.toList_toArray, List.take_left' (by rw [hcs'])]
@[reducible] def itArg (kd : Int) (nm : ByteArray) (k : Int) (o n : ByteArray) (ns ps : Sl) : Value := .agg #[.int .i64 kd, .string nm, .int .i64 k, .string o, .string n, .slice ns.a ns.n ns.c, .slice ps.a ps.n ps.c]
def FindQ (P : Thing → Prop) (fv : Value) (q : Thing → Int) (w0 : World) : Prop := ∃ f cs, fv = .func (.func f) #[] cs ∧ (resOf Tryz.prog f).isSome = true ∧ ∀ (w : World), Fr noB w0 w → ∀ (kd : Int) (nm : ByteArray) (k : Int) (o n : ByteArray) (ns ps : Sl) (it : Thing), ItV w kd nm k o n ns ps it → P it →
 Calls Tryz.prog f (#[itArg kd nm k o n ns ps] ++ cs) w fun e w' => e = .returned (.int .i64 (q it)) ∧ Fr noB w w'
theorem callQ_ok {R : Ending → World → Prop} {w0 w : World} {P : Thing → Prop} {fv : Value} {q : Thing → Int} (hq : FindQ P fv q w0) (F0 : Fr noB w0 w) {kd : Int} {nm : ByteArray} {k : Int} {o n : ByteArray} {ns ps : Sl} {it : Thing} (hv : ItV w kd nm k o n ns ps it) (hp : P it) {K : Int → G} (h : ∀ w', Fr noB w w' → K (q it) R w') : callVG Tryz.prog fv #[itArg kd nm k o n ns ps] [.one (.int .i64)] K R w := by
 obtain ⟨f, cs, rfl, hr, hc⟩ := hq
 refine ⟨f, #[], cs, rfl, hr, ?_⟩
 rw [Array.empty_append]
 exact (hc w F0 kd nm k o n ns ps it hv hp).mono fun e w' ⟨he, F⟩ => .inl ⟨((q it, ()), ()), he, h w' F⟩
set_option maxHeartbeats 4000000 in
theorem search_ok {P : Thing → Prop} {w : World} {s : Sl} {D : List Dep} {fv : Value} {q : Thing → Int} (hD : DpR w s D) (hN : itemsN D ≤ 1000000) (hP : ∀ d ∈ D, ∀ it ∈ d.items, P it) (hq : FindQ P fv q w) (n : Int) : Calls Tryz.prog 28 #[.slice s.a s.n s.c, .int .i64 n, fv] w (HitsP w ((sortH (hitsOf q D)).take n.toNat)) := by
 obtain ⟨iH, zH, hiH, hzH, s1, s2, s3⟩ := infoHit
 have hsn := hD.1
 have hsl := hD.2.1
 apply c28
 unfold t28 wrZ ivZ tvZ svZ ldIZ ldSZ ldLZ lf5mZ ld7xZ st7Z nwZ nz7Z ca0Z caLZ jnLZ lpLIZ ixZ
 refine join1_ok (c := .slice) (fun (l : Sl) w' => ∃ V, w'.ownsRow 0 46 3 (.slice l.a l.n l.c) V.length (V.flatMap hvCells) ∧ hvs V = hitsOf q D ∧ (∀ a, l.a = some a → w.heap.size ≤ a.block) ∧ Fr noB w w') (fun kj hkj => ?_) ?_
 ·refine countS_ok D.length (by omega) (fun i (l : Sl) w' => ∃ V, w'.ownsRow 0 46 3 (.slice l.a l.n l.c) V.length (V.flatMap hvCells) ∧ hvs V = hitsOf q (D.take i) ∧ (∀ a, l.a = some a → w.heap.size ≤ a.block) ∧ Fr noB w w') (fun rec i l w1 hi hI hrec => ?_) ⟨[], World.ownsRow_nil _ _ _ _, rfl, (fun a ha => nomatch ha), Fr.refl _ _⟩
  obtain ⟨V, own1, hV, hnew, F1⟩ := hI
  refine ite_ok (fun hlt => ?_) fun hge => hkj _ _ ⟨V, own1, ?_, hnew, F1⟩
  rotate_left
  ·have hge : ¬ (i : Int) < ((s.n : Nat) : Int) := of_decide_eq_false hge
   rw [hV, List.take_of_length_le (l := D) (by omega)]
  have hlt : (i : Int) < ((s.n : Nat) : Int) := of_decide_eq_true hlt
  obtain ⟨d, hd⟩ : ∃ d, D[i]? = some d := ⟨_, List.getElem?_eq_getElem (by omega)⟩
  have hcnt := itemsN_take D i d hd
  have hVl : V.length ≤ itemsN (D.take i) := by
   have h1 := hitsOf_len q (D.take i)
   rw [← hV, hvs, List.length_map] at h1
   exact h1
  refine join_in (vs := [.one .slice]) (dep_ld hD F1 hd fun nm its hdv => new_ok fun w2 m11 hm11 hs2 B2 F2 => ?_)
  refine B2.st rfl (by simp) fun w3 B3 F3 => B3.st rfl (by simp) fun w4 B4 F4 => ?_
  change Blk w4 m11 _ [.string nm, .slice its.a its.n its.c] at B4
  have G4 : Fr noB w1 w4 := F2.fill (by omega) (st_fr F3 F4)
  have own4 := own_fr0 own1 G4
  obtain ⟨hnm, hnms, hin, hil, hit⟩ := hdv
  refine B4.ldS (o := 1) rfl ?_
  refine join1_ok (c := .slice) (fun (l : Sl) w' => ∃ V, w'.ownsRow 0 46 3 (.slice l.a l.n l.c) V.length (V.flatMap hvCells) ∧ hvs V = hitsOf q (D.take i) ++ dHits q d.name d.items ∧ (∀ a, l.a = some a → w.heap.size ≤ a.block) ∧ Fr noB w w') (fun kj2 hkj2 => ?_) ?_
  ·refine countS_ok d.items.length (by omega) (fun j (l : Sl) w' => ∃ V, w'.ownsRow 0 46 3 (.slice l.a l.n l.c) V.length (V.flatMap hvCells) ∧ hvs V = hitsOf q (D.take i) ++ dHits q d.name (d.items.take j) ∧ (∀ a, l.a = some a → w.heap.size ≤ a.block ∧ a.block ≠ m11) ∧ Blk w' m11 42 [.string nm, .slice its.a its.n its.c] ∧ Fr noB w w')
    (fun rec2 j l2 w5 hj hI2 hrec2 => ?_) ⟨V, own4, by rw [hV, List.take_zero]; simp [dHits], fun a ha => ⟨hnew a ha, ?_⟩, B4, F1.tr G4⟩
   rotate_left
   ·have := own1.lt a.block (by rw [show l.a = some a from ha]; rfl)
    omega
   obtain ⟨V2, own5, hV2, hnew5, B5, F5⟩ := hI2
   refine ite_ok (fun hlt2 => ?_) fun hge2 => hkj2 _ _ ⟨V2, own5, ?_, fun a ha => (hnew5 a ha).1, F5⟩
   rotate_left
   ·have hge2 : ¬ (j : Int) < ((its.n : Nat) : Int) := of_decide_eq_false hge2
    rw [hV2, List.take_of_length_le (l := d.items) (by omega)]
   have hlt2 : (j : Int) < ((its.n : Nat) : Int) := of_decide_eq_true hlt2
   obtain ⟨it, hit1⟩ : ∃ it, d.items[j]? = some it := ⟨_, List.getElem?_eq_getElem (by omega)⟩
   have hV2l : V2.length ≤ itemsN (D.take i) + j := by
    have h1 := hitsOf_len q (D.take i)
    have h2 := dHits_len q d.name (d.items.take j)
    have h3 := congrArg List.length hV2
    rw [hvs, List.length_map, List.length_append] at h3
    rw [List.length_take] at h2
    omega
   have hdv5 : ItL w5 its.a d.items := hit.fr F5
   refine join_in (vs := [.one .slice]) (item_ld hdv5 hit1 hin fun kd nm2 k o n ns ps hiv => new_ok fun w6 m26 hm26 hs6 B6 F6 => fill7_ok B6 rfl rfl rfl rfl rfl rfl rfl rfl fun w7 B7 F7 => ?_)
   have G7 : Fr noB w5 w7 := F6.fill (by omega) F7
   change Blk w7 m26 _ (itCells kd nm2 k o n ns ps) at B7
   refine B7.ld (c := .int .i64) (x := kd) (o := 0) rfl (B7.ld (c := .str) (x := nm2) (o := 1) rfl (B7.ldI ?_))
   have hiv7 := hiv.fr G7
   refine callQ_ok hq (F5.tr G7) hiv7 (hP d (List.mem_of_getElem? hd) it (List.mem_of_getElem? hit1)) fun w8 F8 => ?_
   have G8 := G7.tr F8
   have B8 := B5.fr G8 (fun h => h)
   have C8 := B7.fr F8 (fun h => h)
   have own8 := own_fr0 own5 G8
   refine join1_ok (c := .slice) (fun (l : Sl) w' => ∃ V, w'.ownsRow 0 46 3 (.slice l.a l.n l.c) V.length (V.flatMap hvCells) ∧ hvs V = hitsOf q (D.take i) ++ dHits q d.name (d.items.take (j + 1)) ∧ (∀ a, l.a = some a → w.heap.size ≤ a.block ∧ a.block ≠ m11) ∧ Blk w' m11 42 [.string nm, .slice its.a its.n its.c] ∧ Fr noB w w') (fun kj3 hkj3 => ?_) ?_
   rotate_left
   ·rintro l' w' hI'
    exact hrec2 (by omega) l' w' hI'
   have htk : d.items.take (j + 1) = d.items.take j ++ [it] := by rw [List.take_add_one, hit1]; rfl
   refine ite_ok (fun hpos => ?_) fun hpos => hkj3 _ _ ⟨V2, own8, ?_, hnew5, B8, F5.tr G8⟩
   rotate_left
   ·have hpos : ¬ q it > 0 := of_decide_eq_false hpos
    rw [hV2, htk, dHits_snoc]
    unfold itHit
    rw [if_pos (by omega)]
    simp
   have hpos : q it > 0 := of_decide_eq_true hpos
   refine B8.ld (c := .str) (x := nm) (o := 0) rfl (C8.ld (c := .str) (x := nm2) (o := 1) rfl (new_ok fun w9 m38 hm38 hs9 B9 F9 => ?_))
   have own9 := own_fr0 own8 F9
   change Blk w9 m38 _ (hvCells (nm, nm2, q it)) at B9
   refine append_ok uHits hiH hzH s1 s2 s3 (by omega) (s := l2) own9 (m := 1) rfl (B9.held fun t v ht => by rw [Nat.zero_add]; exact ht) (fun u hu => hv_one (V := [(nm, nm2, q it)]) u (by simpa using hu)) (by unfold maxLen; omega) (by omega) fun l3 w10 own10 F10 ha10 => ?_
   have hm11' : m11 < w5.heap.size := B5.lt
   have hz9 : w8.heap.size ≤ w9.heap.size := F9.size
   have hz8 : w5.heap.size ≤ w8.heap.size := G8.size
   have hz5 : w.heap.size ≤ w5.heap.size := F5.size
   refine hkj3 _ _ ⟨V2 ++ [(nm, nm2, q it)], ?_, ?_, fun a ha => ?_, (B8.fr F9 (fun h => h)).fr F10 fun ⟨a, h1, h2⟩ => (hnew5 a h1).2 h2, ((F5.tr G8).tr F9).then F10 fun x hx ⟨a, h1, h2⟩ => ?_⟩
   ·rw [List.length_append, List.flatMap_append]
    simpa using own10
   ·rw [hvs_append, hV2, htk, dHits_snoc, List.append_assoc]
    unfold itHit
    rw [if_neg (by omega)]
    have hh : hvHit (nm, nm2, q it) = ⟨d.name, it.name, q it⟩ := by
     rw [← hnm, ← hiv.2.1]
     rfl
    show _ ++ (_ ++ [hvHit (nm, nm2, q it)]) = _
    rw [hh]
    rfl
   ·rcases ha10 a ha with h | h
    ·exact hnew5 a h
    ·omega
   ·have := (hnew5 a h1).1
    omega
  ·rintro l3 w5 ⟨V2, own5, hV2, hnew5, F5⟩
   refine hrec (by omega) l3 w5 ⟨V2, own5, ?_, hnew5, F5⟩
   have : D.take (i + 1) = D.take i ++ [d] := by rw [List.take_add_one, hd]; rfl
   rw [this, hitsOf_snoc, hV2]
 rintro l w1 ⟨V, own1, hV, hnew, F1⟩
 have hVl : V.length ≤ 1000000 := by
  have h1 := hitsOf_len q D
  rw [← hV, hvs, List.length_map] at h1
  omega
 refine sortOwn_ok cmpH_search own1 hVl fun V' w2 hV' own2 F2 => ?_
 have G2 : Fr noB w w2 := F1.then F2 fun x hx ⟨a, h1, h2⟩ => by have := hnew a h1; omega
 have hl' : V'.length = V.length := by
  have h7 := (sortH_perm (hvs V)).length_eq
  rw [← hV', hvs, hvs, List.length_map, List.length_map] at h7
  exact h7
 have hk : min n.toNat V'.length ≤ V'.length := Nat.min_le_right _ _
 obtain ⟨hn1, hc1, sA, _⟩ := src_own own2 hk
 have hex : (if (0 : Int) > if ((l.n : Nat) : Int) < n then ((l.n : Nat) : Int) else n then (0 : Int) else if ((l.n : Nat) : Int) < n then ((l.n : Nat) : Int) else n) = ((min n.toNat V'.length : Nat) : Int) := by
  split <;> split <;> omega
 rw [hex]
 refine assume_ok (decide_eq_true (Int.le_refl _)) (reslice_lo (l := l) (by omega) ?_)
 have hfl : (V'.flatMap hvCells).take (min n.toNat V'.length * 3) = (V'.take (min n.toNat V'.length)).flatMap hvCells := (flat_take hvCells 3 (fun _ => rfl) _ _).symm
 rw [hfl] at sA
 have hcl := clone_ok (V := V'.take (min n.toNat V'.length)) sA (by rw [List.length_take]; exact (Nat.min_eq_left hk).symm) (by rw [List.length_take]; omega)
 refine callHits_ok hcl fun l3 V3 w3 h1 h2 h3 F3 => ⟨l3, V3, rfl, ?_, h2, h3, G2.tr F3⟩
 rw [h1, hvs, List.map_take, ← hV]
 show (hvs V').take _ = _
 rw [hV']
 have hsl' : (sortH (hvs V)).length = V'.length := by rw [← hV', hvs, List.length_map]
 rcases Nat.le_total n.toNat V'.length with h | h
 ·rw [Nat.min_eq_left h]
 ·rw [Nat.min_eq_right h, List.take_of_length_le (by omega), List.take_of_length_le (by omega)]
end Go.Proofs.YticokfpaoiekgaaGreatDoor
end
section
namespace Go.Shp
open Go.Lex
def typeQ (t : Shape) (it : Thing) : Int := if it.kind = 3 then ((rank it.shape t : Nat) : Int) else 0
def nameQ (x : B) (it : Thing) : Int := ((namedR it.name x : Nat) : Int)
theorem take_beq : ∀ (s x : B), (decide (x.length ≤ s.length) && s.take x.length == x) = x.isPrefixOf s
 | s, [] => by simp
 | [], y :: x => by simp
 | a :: s, y :: x => by
  have h := take_beq s x
  rw [List.isPrefixOf, ← h, List.length_cons, List.length_cons, List.take_succ_cons, List.cons_beq_cons]
  have : decide (x.length + 1 ≤ s.length + 1) = decide (x.length ≤ s.length) := decide_eq_decide.2 (by omega)
  rw [this]
  cases decide (x.length ≤ s.length) <;> cases h1 : (y == a) <;> simp [h1, BEq.comm (a := a)]
theorem hasAt_zero (s x : B) : hasAt s x 0 = Lib.hasPrefix s x := by
 unfold hasAt Lib.hasPrefix
 rw [Nat.zero_add, List.drop_zero]
 exact take_beq s x
theorem hasAt_succ (b : UInt8) (l x : B) (i : Nat) : hasAt (b :: l) x (i + 1) = hasAt l x i := by
 unfold hasAt
 rw [List.drop_succ_cons, List.length_cons]
 congr 1
 exact decide_eq_decide.2 (by omega)
theorem contains_any : ∀ (s x : B), Lib.contains s x = (List.range (s.length + 1)).any (hasAt s x)
 | [], x => by
  show Lib.contains [] x = (hasAt [] x 0 || false)
  rw [hasAt_zero, Bool.or_false]
  unfold Lib.contains Lib.index Lib.hasPrefix
  cases x <;> rfl
 | b :: l, x => by
  have ih := contains_any l x
  rw [List.length_cons, List.range_succ_eq_map, List.any_cons, List.any_map]
  have hf : (hasAt (b :: l) x ∘ Nat.succ) = hasAt l x := by
   funext i
   exact hasAt_succ b l x i
  rw [hf, ← ih, hasAt_zero]
  have hge := Lib.index_ge l x
  unfold Lib.contains Lib.hasPrefix
  rw [Lib.index]
  by_cases h1 : x.isPrefixOf (b :: l) = true
  ·rw [if_pos h1, h1]
   rfl
  ·rw [if_neg h1]
   have h1 : x.isPrefixOf (b :: l) = false := Bool.eq_false_iff.2 h1
   rw [h1, Bool.false_or]
   by_cases h2 : Lib.index l x = -1
   ·rw [if_pos (by rw [h2]; rfl), h2]
   ·rw [if_neg (by simpa using h2)]
    exact decide_eq_decide.2 (by omega)
end Go.Shp
namespace Go.Proofs.YticokfpaoiekgaaGreatDoor
open Go.Lift Go.Lex Go.Shp
theorem resT1 : (resOf Tryz.prog 29).isSome = true := by kernel_rfl
theorem resN1 : (resOf Tryz.prog 32).isSome = true := by kernel_rfl
theorem byType1_ok {w : World} {m : Nat} {T : TypeId} {k2 : Int} {o2 n2 : ByteArray} {ns2 ps2 : Sl} {t : Shape} (B0 : Blk w m T (shCells k2 o2 n2 ns2 ps2)) (ht : ShV w k2 o2 n2 ns2 ps2 t) {kd : Int} {nm : ByteArray} {k : Int} {o n : ByteArray} {ns ps : Sl} {it : Thing} (hv : ItV w kd nm k o n ns ps it) :
  Calls Tryz.prog 29 (#[itArg kd nm k o n ns ps] ++ #[.pointer (some ⟨m, 0, none⟩)]) w fun e w' => e = .returned (.int .i64 (typeQ t it)) ∧ Fr noB w w' := by
 show Calls Tryz.prog _ #[itArg kd nm k o n ns ps, .pointer (some ⟨m, 0, none⟩)] w _
 apply c29
 unfold t29 ivZ tvZ svZ shZ ldIZ lf5mZ ld5xZ nwZ caIZ
 refine new_ok fun w1 m8 hm8 hs1 B1 F1 => ?_
 change Blk w1 m8 _ (itCells kd nm k o n ns ps) at B1
 refine B1.ld (c := .int .i64) (x := kd) (o := 0) rfl (ite_ok (fun h => ⟨?_, F1⟩) fun h => ?_)
 ·have h : kd ≠ 3 := by simpa using h
  unfold typeQ
  rw [if_neg (by rw [← hv.1]; exact h)]
 have h : kd = 3 := by simpa using h
 refine B1.ldI ?_
 simp only [Addr.add_lit, Nat.zero_add]
 refine (B0.fr F1 (fun h => h)).ldV (callI_ok (Rank_ok (hv.2.2.2.fr F1) (ht.fr F1)) fun w2 F2 => ⟨?_, F1.tr F2⟩)
 unfold typeQ
 rw [if_pos (by rw [← hv.1]; exact h)]
theorem byName1_ok {w : World} {m : Nat} {T : TypeId} {x : ByteArray} (hg : Glob w) (B0 : Blk w m T [.string x]) {kd : Int} {nm : ByteArray} {k : Int} {o n : ByteArray} {ns ps : Sl} {it : Thing} (hv : ItV w kd nm k o n ns ps it) (hp : it.name.length ≤ 300) :
  Calls Tryz.prog 32 (#[itArg kd nm k o n ns ps] ++ #[.pointer (some ⟨m, 0, none⟩)]) w fun e w' => e = .returned (.int .i64 (nameQ (bl x) it)) ∧ Fr noB w w' := by
 obtain ⟨ml, hml⟩ := hg.len
 have hsz : nm.size < 4294967281 := by have := bl_length nm; rw [hv.2.1] at this; omega
 show Calls Tryz.prog _ #[itArg kd nm k o n ns ps, .pointer (some ⟨m, 0, none⟩)] w _
 apply c32
 unfold t32 ivZ tvZ svZ ldSZ nwZ caBZ jn0Z
 refine new_ok fun w1 m8 hm8 hs1 B1 F1 => ?_
 change Blk w1 m8 _ (itCells kd nm k o n ns ps) at B1
 have C1 := B0.fr F1 (fun h => h)
 have hq : nameQ (bl x) it = ((namedR (bl nm) (bl x) : Nat) : Int) := by unfold nameQ; rw [hv.2.1]
 rw [hq]
 unfold namedR
 have ld1 : ∀ {K : ByteArray → G} {R : Ending → World → Prop}, K nm R w1 → ldG .str ⟨m8, 1, none⟩ K R w1 := fun h => B1.ld (c := .str) (x := nm) (o := 1) rfl h
 have ld2 : ∀ {K : ByteArray → G} {R : Ending → World → Prop}, K x R w1 → ldG .str ⟨m, 0, none⟩ K R w1 := fun h => C1.ld (c := .str) (x := x) (o := 0) rfl h
 refine join0_ok (fun w' => w' = w1 ∧ (bl nm == bl x) = false ∧ hasAt (bl nm) (bl x) 0 = false ∧ (List.range ((bl nm).length + 1)).any (hasAt (bl nm) (bl x)) = false) (fun kj hkj => ?_) ?_
 ·refine ld1 (ld2 ?_)
  rw [eq_bl]
  refine ite_ok (fun h => ⟨by rw [h]; rfl, F1⟩) fun h => ld1 (ld2 (call_ok (Tryz.strings_HasPrefix nm x w1) ?_))
  rintro e w2 ⟨rfl, rfl⟩
  refine ⟨((_, ()), ()), rfl, ?_⟩
  have e1 : Lib.hasPrefix nm.data.toList x.data.toList = hasAt (bl nm) (bl x) 0 := (hasAt_zero (bl nm) (bl x)).symm
  show iteG (Lib.hasPrefix nm.data.toList x.data.toList) _ _ _ _
  rw [e1]
  refine ite_ok (fun h2 => ⟨by rw [h, h2]; rfl, F1⟩) fun h2 => ld1 (ld2 (call_ok (Tryz.strings_Contains nm x ml w2 hsz (F1.cell hml fun h => h)) ?_))
  rintro e w3 ⟨rfl, rfl⟩
  refine ⟨((_, ()), ()), rfl, ?_⟩
  have e2 : Lib.contains nm.data.toList x.data.toList = (List.range ((bl nm).length + 1)).any (hasAt (bl nm) (bl x)) := contains_any (bl nm) (bl x)
  show iteG (Lib.contains nm.data.toList x.data.toList) _ _ _ _
  rw [e2]
  refine ite_ok (fun h3 => ⟨by rw [h, h2, h3]; rfl, F1⟩) fun h3 => hkj _ ⟨rfl, h, h2, h3⟩
 ·rintro w' ⟨rfl, h1, h2, h3⟩
  exact ⟨by rw [h1, h2, h3]; rfl, F1⟩
theorem ByType_ok {w : World} {s : Sl} {D : List Dep} (hD : DpR w s D) (hN : itemsN D ≤ 1000000) {k2 : Int} {o2 n2 : ByteArray} {ns2 ps2 : Sl} {t : Shape} (ht : ShV w k2 o2 n2 ns2 ps2 t) (n : Int) :
  Calls Tryz.prog 14 #[shArg k2 o2 n2 ns2 ps2, .int .i64 n, .slice s.a s.n s.c] w (HitsP w ((sortH (hitsOf (typeQ t) D)).take n.toNat)) := by
 apply c14
 unfold t14 ivZ svZ nw5Z caLZ
 refine new_ok fun w1 m7 hm7 hs1 B1 F1 => ?_
 change Blk w1 m7 _ (shCells k2 o2 n2 ns2 ps2) at B1
 refine callHits_ok (search_ok (P := fun _ => True) (q := typeQ t) (hD.fr F1) hN (fun _ _ _ _ => trivial) ⟨_, _, rfl, resT1, fun w2 F2 kd nm k o n ns ps it hv _ => byType1_ok (B1.fr F2 (fun h => h)) (ht.fr (F1.tr F2)) hv⟩ n) fun l V w2 h1 h2 h3 F2 => ⟨l, V, rfl, h1, h2, h3, F1.tr F2⟩
theorem ByName_ok {w : World} {s : Sl} {D : List Dep} (hg : Glob w) (hD : DpR w s D) (hN : itemsN D ≤ 1000000) (hS : ∀ d ∈ D, ∀ it ∈ d.items, it.name.length ≤ 300) (x : ByteArray) (n : Int) :
  Calls Tryz.prog 16 #[.string x, .int .i64 n, .slice s.a s.n s.c] w (HitsP w ((sortH (hitsOf (nameQ (bl x)) D)).take n.toNat)) := by
 apply c16
 unfold t16 ivZ tvZ svZ nwZ caLZ
 refine new_ok fun w1 m7 hm7 hs1 B1 F1 => ?_
 change Blk w1 m7 _ [.string x] at B1
 refine callHits_ok (search_ok (P := fun it => it.name.length ≤ 300) (q := nameQ (bl x)) (hD.fr F1) hN hS ⟨_, _, rfl, resN1, fun w2 F2 kd nm k o n ns ps it hv hp => byName1_ok ((hg.fr F1).fr F2) (B1.fr F2 (fun h => h)) hv hp⟩ n) fun l V w2 h1 h2 h3 F2 => ⟨l, V, rfl, h1, h2, h3, F1.tr F2⟩
end Go.Proofs.YticokfpaoiekgaaGreatDoor
end
