/- The law behind: one part of its proof (joined by program out of my own texts). No condition. -/
import Derived.Test.YtngfnokbdcjoeaaGreatDoorVatAW
section
namespace Go.Proofs.YtngfnokbdcjoeaaGreatDoor
open Go.Lift Go.Lex Go.Shp
theorem FmtInt_ok {w : World} (hg : GlobV w) {z : Int} (h : okN z) : Calls Tryz.prog 63 #[.int .i64 z, .int .i64 10] w fun e w' => e = .returned (.string (bs (Lib.itoa z))) ∧ Fr noB w w' :=
 (Tryz.strconv_FormatInt_10 z h.1 h.2 w hg.pow).mono fun e w' ⟨h1, k, os, h2⟩ => ⟨h1, by rw [h2]; exact fr_growN _ _ _⟩
theorem catB_ok {R : Ending → World → Prop} {w : World} {a b : B} {k : ByteArray → G} (hs : a.length + b.length ≤ 9223372036854775807) (h : k (bs (a ++ b)) R w) : catG (bs a) (bs b) k R w := by
 refine cat_ok (by rw [bs_size, bs_size]; exact hs) ?_
 rw [bs_append]
 exact h
theorem joinC_ok {base : Nat} {l : Sl} {L : List B} {sep : B} {w : World} (hown : w.ownsRow base 9 1 (.slice l.a l.n l.c) L.length (L.map fun x => .string (bs x))) (hlen : (Lib.join L sep).length ≤ 140737488355328) (hl : L.length ≤ 140737488355328) :
  Calls Tryz.prog 65 #[.slice l.a l.n l.c, .string (bs sep)] w fun e w' => e = .returned (.string (bs (Lib.join L sep))) ∧ Fr noB w w' := by
 rcases hown.2 with ⟨h, h0⟩ | ⟨g, cap, cur, h, _, hg1, hcap, _⟩
 ·have : L = [] := List.eq_nil_of_length_eq_zero h0
  subst this
  simp only [Value.slice.injEq] at h
  rw [h.1, h.2.1, h.2.2]
  exact (Tryz.strings_Join_none none 0 (bs sep) w).mono fun e w' ⟨h1, h2⟩ => ⟨h1, by rw [h2]; exact Fr.refl _ _⟩
 ·simp only [Value.slice.injEq] at h
  have hmap : (L.map bs).map (fun x => x.data.toList) = L := by
   rw [List.map_map]
   conv => rhs; rw [← List.map_id L]
   exact List.map_congr_left fun x _ => bl_bs x
  have hj := Tryz.strings_Join g 0 cap (L.map bs) (bs sep) w (fun j x hx => by
   rw [List.getElem?_map, Option.map_eq_some_iff] at hx
   obtain ⟨y, hy, rfl⟩ := hx
   have := hown.cells (g := g) (by rw [h.1]; rfl) j (.string (bs y)) (by rw [List.getElem?_map, hy]; rfl)
   rw [Addr.add_lit] at this
   exact this) (Array.getElem?_eq_some_iff.1 hg1).1 (by rw [List.length_map]; exact hl) (by rw [List.length_map]; exact hcap) (by rw [hmap, show (bs sep).data.toList = sep from bl_bs sep]; exact hlen)
  rw [hmap, List.length_map, show (bs sep).data.toList = sep from bl_bs sep] at hj
  rw [h.1, h.2.1, h.2.2]
  exact hj.mono fun e w' ⟨h1, h2⟩ => ⟨h1, fr_below h2⟩
theorem mix_set {α : Type} : ∀ {A T : List α} {i : Nat} {x : α}, A.length = T.length → A[i]? = some x → (A.take i ++ T.drop i).set i x = A.take (i + 1) ++ T.drop (i + 1)
 | [], _, _, _, _, h => by simp at h
 | _ :: _, [], _, _, h, _ => by simp at h
 | a :: A, t :: T, 0, x, _, h => by simp at h; simp [h]
 | a :: A, t :: T, i + 1, x, h, hx => by
  have := mix_set (A := A) (T := T) (i := i) (x := x) (by simpa using h) (by simpa using hx)
  simpa using this
theorem mix_get {α : Type} {A T : List α} {i : Nat} (h : A.length = T.length) (hi : i < T.length) : (A.take i ++ T.drop i)[i]? = T[i]? := by
 rw [List.getElem?_append_right (by rw [List.length_take]; omega), List.length_take, List.getElem?_drop, show i + (i - min i A.length) = i by omega]
set_option maxHeartbeats 4000000 in
theorem vshown_ok : ∀ (d : Nat) (s : Shape), size s ≤ d → size s ≤ 2000 → formed s = true → vquot s = true → vtP QuotC s → ∀ {w : World} {k z : Int} {o n : ByteArray} {ns ps : Sl}, GlobV w → VaV w k z o n ns ps s → vnum s →
  Calls Tryz.prog 38 #[vaArg k z o n ns ps] w fun e w' => e = .returned (.string (bs (vtext s))) ∧ Fr noB w w'
 | 0, s, h, _, _, _, _, _, _, _, _, _, _, _, _, _, _ => by have := size_pos s; omega
 | d + 1, .mk q oA nA names parts, hd, hd2, hform, hquot, hq, w, k, z, o, n, ns, ps, hg, hv, hnum => by
  have hlen := vtext_len _ _ (Nat.le_refl _) hform hquot hnum
  rw [size_mk] at hd hd2 hlen
  rw [vtP] at hq
  rw [vnum] at hnum
  have hnp := vnums_mem hnum.2
  obtain ⟨hvf, hfp⟩ := formed_parts hform
  obtain ⟨hq1, hqp⟩ := vquot_parts hquot
  obtain ⟨ek, eo, en, ⟨hz, hns, hnl, hpn, hpl, _⟩, hps⟩ := hv.parts
  change q = vk k z at ek
  change bl o = oA at eo
  change bl n = nA at en
  change RdS w ns (names.map bs) at hns
  change ps.n = parts.length at hpn
  change parts.length < 4611686018427387904 at hpl
  change VaL w ps.a 0 parts at hps
  have hnn := hns.1
  rw [List.length_map] at hnn
  have hplen : parts.length ≤ 2000 := by have := sizes_len parts; omega
  have hk : kOf q = k := by rw [ek]; exact kOf_vk hz.1 hz.2
  have hzz : zOf q = z := by rw [ek]; exact zOf_vk hz.1 hz.2
  have eo' : o = bs oA := by rw [← eo, bs_bl]
  have en' : n = bs nA := by rw [← en, bs_bl]
  have hpart : ∀ p ∈ parts, (vtext p).length + 100 ≤ 5000 * size p := fun p hp => vtext_len _ p (Nat.le_refl _) (hfp p hp) (hqp p hp) (hnp p hp)
  have hsz2 : ∀ p ∈ parts, size p ≤ 2000 := fun p hp => by have := size_mem hp; omega
  obtain ⟨ti, zz, hi, hz0, e1, e2, e3⟩ := rStr
  apply c38
  unfold t38 wrZ ivZ tvZ svZ ldIZ ldSZ ldLZ ld6mZ ld6xZ vaZ st6Z nw6Z nz6Z nwZ caSZ caZ jn0Z jnLZ lpIZ lpLIZ ixZ
  refine new_ok fun w1 m6 hm6 hs1 B1 F1 => ?_
  change Blk w1 m6 _ (vaCells k z o n ns ps) at B1
  refine B1.ldS (o := 5) rfl ?_
  refine join1_ok (c := .slice) (fun (l : Sl) w' => w'.ownsRow w1.heap.size 9 1 (.slice l.a l.n l.c) parts.length ((parts.map vtext).map fun x => Value.string (bs x)) ∧ Fr noB w1 w') (fun kend hkend => ?_) ?_
  ·refine loop_ok (vs := [.one .slice, .one (.int .i64)]) (fun xs w' => ∃ i : Nat, i ≤ parts.length ∧ (show Int from xs.2.1.1) = (i : Int) ∧ w'.ownsRow w1.heap.size 9 1 (.slice (show Sl from xs.1.1).a (show Sl from xs.1.1).n (show Sl from xs.1.1).c) i (((parts.take i).map vtext).map fun x => Value.string (bs x)) ∧ Fr noB w1 w')
    (fun xs => parts.length - (show Int from xs.2.1.1).toNat) ?_ (xs := (((⟨none, 0, 0⟩ : Sl), ()), (((0 : Int), ()), ()))) ⟨0, by omega, rfl, ⟨rfl, .inl ⟨rfl, rfl⟩⟩, Fr.refl _ _⟩
   rintro rec ⟨⟨l10, ⟨⟩⟩, ⟨⟨n11, ⟨⟩⟩, ⟨⟩⟩⟩ wi ⟨i, hi', hii, hown, Fi⟩ hrec
   change Sl at l10
   change Int at n11
   change n11 = _ at hii
   subst hii
   change wi.ownsRow _ _ _ (.slice l10.a l10.n l10.c) _ _ at hown
   refine ite_ok (fun hlt => ?_) fun hge => hkend _ _ ⟨?_, Fi⟩
   rotate_left
   ·have hge : ¬ (i : Int) < (ps.n : Int) := of_decide_eq_false hge
    have : i = parts.length := by omega
    subst this
    rw [List.take_length] at hown
    exact hown
   have hlt : (i : Int) < (ps.n : Int) := of_decide_eq_true hlt
   obtain ⟨x, hx⟩ : ∃ x, parts[i]? = some x := ⟨_, List.getElem?_eq_getElem (by omega)⟩
   have hxm := List.mem_of_getElem? hx
   have hsz := size_mem hxm
   unfold joinG
   refine vpart_ld (hps.fr (F1.tr Fi)) hx hpn fun k1 z1 o1 n1 ns1 ps1 hv1 => ?_
   refine new_ok fun w2 m20 hm20 hs2 M2 F2 => fill6_ok M2 rfl rfl rfl rfl rfl rfl rfl fun w3 M3 F3 => ?_
   change Blk w3 m20 _ (vaCells k1 z1 o1 n1 ns1 ps1) at M3
   have J3 : Fr noB wi w3 := F2.fill (by omega) F3
   refine M3.ldW (callS_ok (vshown_ok d x (by omega) (hsz2 x hxm) (hfp x hxm) (hqp x hxm) (vtPs_mem hq.2 x hxm) (hg.frV ((F1.tr Fi).tr J3)) (hv1.fr J3) (hnp x hxm)) fun w4 F4 => ?_)
   refine new_ok fun w5 m28 hm28 hs5 M5 F5 => ?_
   have J5 := (J3.tr F4).tr F5
   have hown5 := own_fr0 hown J5
   refine appendC_ok uStrs hi hz0 e1 e2 (by rw [e3]; rfl) (by omega) (s := l10) hown5 (m := 1) (news := [.string (bs (vtext x))]) rfl (M5.held fun j v hj => by rw [Nat.zero_add]; exact hj) (fun u hu => by rw [List.mem_singleton.1 hu]; rfl)
    (by unfold maxLen; omega) (by omega) (by have := (Fi.tr J5).size; omega) fun l29 w6 hown6 F6 => ?_
   have ewk : IntKind.wrap .i64 ((i : Int) + 1) = ((i + 1 : Nat) : Int) := by rw [wrap_ok (by omega) (by omega)]; omega
   show uncV rec ((l29, ()), ((IntKind.wrap .i64 ((i : Int) + 1), ()), ())) _ w6
   rw [ewk]
   refine hrec _ _ ⟨i + 1, by omega, rfl, ?_, (Fi.tr J5).then F6 fun y hy h => by have := (hown5.lt y h).1; omega⟩ (by show parts.length - ((i + 1 : Nat) : Int).toNat < parts.length - ((i : Nat) : Int).toNat; simp only [Int.toNat_natCast]; omega)
   rw [List.take_add_one, hx, List.map_append, List.map_append]
   exact hown6
  ·rintro l31 w2 ⟨hown, F2⟩
   have B2 := B1.fr F2 (fun h => h)
   have H2 := F1.tr F2
   refine B2.ld (c := .int .i64) (x := k) (o := 0) rfl ?_
   refine join_in (vs := []) ?_
   obtain ⟨k1, k8⟩ := vform_kind hvf
   rw [hk] at k1 k8
   have no : ∀ j : Int, k ≠ j → (k == j) = false := fun j h => beq_eq_false_iff_ne.2 h
   have yes : ∀ j : Int, k = j → (k == j) = true := fun j h => beq_iff_eq.2 h
   have hel : (vtexts parts) = parts.map vtext := vtexts_map parts
   have hown' : w2.ownsRow w1.heap.size 9 1 (.slice l31.a l31.n l31.c) (parts.map vtext).length ((parts.map vtext).map fun x => Value.string (bs x)) := by rw [List.length_map]; exact hown
   have get : ∀ {i : Nat} {p : Shape}, parts[i]? = some p → ((parts.map vtext).map fun x => Value.string (bs x))[i]? = some (.string (bs (vtext p))) := fun h => by rw [List.getElem?_map, List.getElem?_map, h]; rfl
   rcases (by omega : k = 1 ∨ k = 2 ∨ k = 3 ∨ k = 4 ∨ k = 5 ∨ k = 6 ∨ k = 7 ∨ k = 8) with h | h | h | h | h | h | h | h
   ·refine ite_yes (yes _ h) (B2.ld (c := .int .i64) (x := z) (o := 1) rfl (callS_ok (FmtInt_ok (hg.frV H2) hz) fun w3 F3 => ⟨?_, H2.tr F3⟩))
    rw [text1 (hk.trans h), hzz]
   ·refine ite_no (no _ (by omega)) (ite_yes (yes _ h) (B2.ld (c := .str) (x := n) (o := 3) rfl (call_ok (hq.1 (hk.trans h) (hg.toGlob.fr H2) en) ?_)))
    rintro e w3 ⟨r, rfl, hr, F3⟩
    refine ⟨((r, ()), ((_, ()), ())), rfl, ⟨?_, H2.tr F3⟩⟩
    obtain ⟨y, hy⟩ := Option.isSome_iff_exists.1 (hq1 (hk.trans h))
    rw [text2 (hk.trans h), ← (show1_len hy).1, ← hr y hy, bs_bl]
   ·refine ite_no (no _ (by omega)) (ite_no (no _ (by omega)) (ite_yes (yes _ h) (B2.ld (c := .int .i64) (x := z) (o := 1) rfl (callS_ok (Tryz.strconv_FormatBool (z == 1) w2) fun w3 F3 => ⟨?_, by rw [F3]; exact H2⟩))))
    rw [text3 (hk.trans h), hzz]
    by_cases hz1 : z = 1
    ·rw [if_pos hz1, hz1]; rfl
    ·rw [if_neg hz1, beq_eq_false_iff_ne.2 hz1]; rfl
   ·refine ite_no (no _ (by omega)) (ite_no (no _ (by omega)) (ite_no (no _ (by omega)) (ite_yes (yes _ h) ?_)))
    have e4 := text4 (o := oA) (t := nA) (ns := names) (ps := parts) (hk.trans h)
    rw [e4] at hlen
    simp only [List.length_cons, List.length_append, List.length_nil] at hlen
    refine callS_ok (joinC_ok (sep := [44, 32]) hown' (by omega) (by rw [List.length_map]; omega)) fun w3 F3 => ?_
    refine catB_ok (a := [91]) (b := Lib.join (parts.map vtext) [44, 32]) (by simp only [List.length_cons, List.length_nil]; omega) ?_
    refine catB_ok (a := [91] ++ Lib.join (parts.map vtext) [44, 32]) (b := [93]) (by simp only [List.length_cons, List.length_append, List.length_nil]; omega) ⟨?_, H2.tr F3⟩
    rw [e4]
    rfl
   ·refine ite_no (no _ (by omega)) (ite_no (no _ (by omega)) (ite_no (no _ (by omega)) (ite_no (no _ (by omega)) (ite_yes (yes _ h) ?_))))
    have e5 := text5 (o := oA) (t := nA) (ns := names) (ps := parts) (hk.trans h)
    obtain ⟨_, _, _, hnlen, hnm, _⟩ := form5 hvf (hk.trans h)
    rw [e5] at hlen
    simp only [List.length_cons, List.length_append, List.length_nil] at hlen
    have hAT : ((names.zip parts).map ftext).length = (parts.map vtext).length := by simp only [List.length_map, List.length_zip]; omega
    have hTl : (parts.map vtext).length = parts.length := List.length_map _
    refine B2.ldS (o := 4) rfl ?_
    refine join0_ok (fun w' => w'.ownsRow w1.heap.size 9 1 (.slice l31.a l31.n l31.c) parts.length (((names.zip parts).map ftext).map fun x => Value.string (bs x)) ∧ Fr noB w1 w') (fun kend hkend => ?_) ?_
    ·refine countL_ok parts.length (by omega) (fun i w' => w'.ownsRow w1.heap.size 9 1 (.slice l31.a l31.n l31.c) parts.length ((((names.zip parts).map ftext).take i ++ (parts.map vtext).drop i).map fun x => Value.string (bs x)) ∧ Fr noB w1 w') (fun rec i wi hi2 hI hrec => ?_) ⟨hown, F2⟩
     obtain ⟨hownI, Fi⟩ := hI
     refine ite_ok (fun hlt => ?_) fun hge => hkend _ ⟨?_, Fi⟩
     rotate_left
     ·have hge : ¬ (i : Int) < (ns.n : Int) := of_decide_eq_false hge
      have : i = parts.length := by omega
      subst this
      rw [List.take_of_length_le (by omega), List.drop_of_length_le (by omega), List.append_nil] at hownI
      exact hownI
     have hlt : (i : Int) < (ns.n : Int) := of_decide_eq_true hlt
     obtain ⟨p, hp⟩ : ∃ p, parts[i]? = some p := ⟨_, List.getElem?_eq_getElem (by omega)⟩
     obtain ⟨nm, hnm1⟩ : ∃ nm, names[i]? = some nm := ⟨_, List.getElem?_eq_getElem (by omega)⟩
     have hpm := List.mem_of_getElem? hp
     have hl1 := name_len (hnm nm (List.mem_of_getElem? hnm1))
     have hl2 := hpart p hpm
     have hl3 := hsz2 p hpm
     have hget : ((((names.zip parts).map ftext).take i ++ (parts.map vtext).drop i).map fun x => Value.string (bs x))[i]? = some (.string (bs (vtext p))) := by
      rw [List.getElem?_map, mix_get hAT (by omega), List.getElem?_map, hp]; rfl
     have hft : ((names.zip parts).map ftext)[i]? = some (nm ++ [32, 61, 32] ++ vtext p) := by
      rw [List.getElem?_map, (List.getElem?_zip_eq_some (z := (nm, p))).2 ⟨hnm1, hp⟩]
      simp [ftext]
     refine join_in (vs := []) (str_ldA (hns.fr (F1.tr Fi)) hnm1 fun a ha => ?_)
     refine catB_ok (a := nm) (b := [32, 61, 32]) (by simp only [List.length_cons, List.length_nil]; omega) ?_
     refine own_get hownI hget ?_
     refine catB_ok (a := nm ++ [32, 61, 32]) (b := vtext p) (by simp only [List.length_append, List.length_cons, List.length_nil]; omega) ?_
     refine own_put hownI (i := i) (by omega) rfl fun w4 own4 F4 _ => hrec (by omega) _ ⟨?_, Fi.then F4 fun y hy h => by change w1.heap.size ≤ y at h; omega⟩
     have hset := mix_set hAT hft
     rw [← hset, List.map_set]
     exact own4
    ·rintro w3 ⟨own3, F3⟩
     refine callS_ok (joinC_ok (L := (names.zip parts).map ftext) (sep := [44, 32]) (by rw [hAT, hTl]; exact own3) (by omega) (by omega)) fun w4 F4 => ?_
     refine catB_ok (a := [123]) (b := Lib.join ((names.zip parts).map ftext) [44, 32]) (by simp only [List.length_cons, List.length_nil]; omega) ?_
     refine catB_ok (a := [123] ++ Lib.join ((names.zip parts).map ftext) [44, 32]) (b := [125]) (by simp only [List.length_cons, List.length_append, List.length_nil]; omega) ⟨?_, (F1.tr F3).tr F4⟩
     rw [e5]
     rfl
   ·refine ite_no (no _ (by omega)) (ite_no (no _ (by omega)) (ite_no (no _ (by omega)) (ite_no (no _ (by omega)) (ite_no (no _ (by omega)) (ite_yes (yes _ h) ?_)))))
    obtain ⟨_, _, _, hnm, hl⟩ := form6 hvf (hk.trans h)
    obtain ⟨p, rfl⟩ : ∃ p, parts = [p] := by
     match parts, hl with
     | [p], _ => exact ⟨p, rfl⟩
    have e6 := text6 (o := oA) (t := nA) (ns := names) (p := p) (hk.trans h)
    have hl1 := name_len hnm
    have hl2 := hpart p (by simp)
    have hl3 := hsz2 p (by simp)
    refine drew_ok fun w3 F3 _ => ?_
    have B3 := B2.fr F3 (fun h => h)
    refine B3.ld (c := .str) (x := n) (o := 3) rfl ?_
    rw [en']
    refine catB_ok (a := [64]) (b := nA) (by simp only [List.length_cons, List.length_nil]; omega) ?_
    refine catB_ok (a := [64] ++ nA) (b := [40]) (by simp only [List.length_append, List.length_cons, List.length_nil]; omega) ?_
    refine own_get (i := 0) (own_fr0 hown F3) (get rfl) ?_
    refine catB_ok (a := [64] ++ nA ++ [40]) (b := vtext p) (by simp only [List.length_append, List.length_cons, List.length_nil]; omega) ?_
    refine catB_ok (a := [64] ++ nA ++ [40] ++ vtext p) (b := [41]) (by simp only [List.length_append, List.length_cons, List.length_nil]; omega) ⟨?_, H2.tr F3⟩
    rw [e6]
    simp
   ·refine ite_no (no _ (by omega)) (ite_no (no _ (by omega)) (ite_no (no _ (by omega)) (ite_no (no _ (by omega)) (ite_no (no _ (by omega)) (ite_no (no _ (by omega)) (ite_yes (yes _ h) ?_))))))
    obtain ⟨hon, hnm, _, _, hl⟩ := form7 hvf (hk.trans h)
    obtain ⟨p, rfl⟩ : ∃ p, parts = [p] := by
     match parts, hl with
     | [p], _ => exact ⟨p, rfl⟩
    have e7 := text7 (o := oA) (t := nA) (ns := names) (p := p) (hk.trans h)
    have hl0 := name_len hon
    have hl1 := upper_len hnm
    have hl2 := hpart p (by simp)
    have hl3 := hsz2 p (by simp)
    refine drew_ok fun w3 F3 _ => ?_
    have B3 := B2.fr F3 (fun h => h)
    refine B3.ld (c := .str) (x := o) (o := 2) rfl ?_
    rw [eo']
    refine catB_ok (a := oA) (b := [47]) (by simp only [List.length_cons, List.length_nil]; omega) ?_
    refine B3.ld (c := .str) (x := n) (o := 3) rfl ?_
    rw [en']
    refine catB_ok (a := oA ++ [47]) (b := nA) (by simp only [List.length_append, List.length_cons, List.length_nil]; omega) ?_
    refine catB_ok (a := oA ++ [47] ++ nA) (b := [40]) (by simp only [List.length_append, List.length_cons, List.length_nil]; omega) ?_
    refine own_get (i := 0) (own_fr0 hown F3) (get rfl) ?_
    refine catB_ok (a := oA ++ [47] ++ nA ++ [40]) (b := vtext p) (by simp only [List.length_append, List.length_cons, List.length_nil]; omega) ?_
    refine catB_ok (a := oA ++ [47] ++ nA ++ [40] ++ vtext p) (b := [41]) (by simp only [List.length_append, List.length_cons, List.length_nil]; omega) ⟨?_, H2.tr F3⟩
    rw [e7]
    simp
   ·refine ite_no (no _ (by omega)) (ite_no (no _ (by omega)) (ite_no (no _ (by omega)) (ite_no (no _ (by omega)) (ite_no (no _ (by omega)) (ite_no (no _ (by omega)) (ite_no (no _ (by omega)) ?_))))))
    refine B2.ld (c := .int .i64) (x := z) (o := 1) rfl (callS_ok (FmtInt_ok (hg.frV H2) hz) fun w3 F3 => ?_)
    have hil := itoa_len hz.1 hz.2
    refine catB_ok (a := [102, 117, 110, 47]) (b := Lib.itoa z) (by simp only [List.length_cons, List.length_nil]; omega) ⟨?_, H2.tr F3⟩
    rw [text8 (hk.trans h), hzz]
    rfl
end Go.Proofs.YtngfnokbdcjoeaaGreatDoor
end
section
namespace Go.Tms
open Go.Lex Go.Shp
inductive Tm where
 | mk (kind : Int) (of name : B) (num : Int) (names vars : List B) (shapes : List Shape) (parts : List Tm) (at' : Int)
namespace Tm
def kind : Tm → Int | .mk k _ _ _ _ _ _ _ _ => k
def of : Tm → B | .mk _ o _ _ _ _ _ _ _ => o
def name : Tm → B | .mk _ _ n _ _ _ _ _ _ => n
def num : Tm → Int | .mk _ _ _ z _ _ _ _ _ => z
def names : Tm → List B | .mk _ _ _ _ ns _ _ _ _ => ns
def vars : Tm → List B | .mk _ _ _ _ _ vs _ _ _ => vs
def shapes : Tm → List Shape | .mk _ _ _ _ _ _ ss _ _ => ss
def parts : Tm → List Tm | .mk _ _ _ _ _ _ _ ps _ => ps
def at' : Tm → Int | .mk _ _ _ _ _ _ _ _ a => a
end Tm
mutual
def tsize : Tm → Nat
 | .mk _ _ _ _ _ _ _ ps _ => 1 + tsizes ps
def tsizes : List Tm → Nat
 | [] => 0
 | s :: r => tsize s + tsizes r
end
mutual
def tdeep : Tm → Nat
 | .mk _ _ _ _ _ _ _ ps _ => 1 + tdeeps ps
def tdeeps : List Tm → Nat
 | [] => 0
 | s :: r => max (tdeep s) (tdeeps r)
end
theorem tsize_pos (s : Tm) : 1 ≤ tsize s := by cases s; rw [tsize]; omega
theorem tsize_mk (k : Int) (o n : B) (z : Int) (ns vs : List B) (ss : List Shape) (ps : List Tm) (a : Int) : tsize (.mk k o n z ns vs ss ps a) = 1 + tsizes ps := by rw [tsize]
theorem tdeep_mk (k : Int) (o n : B) (z : Int) (ns vs : List B) (ss : List Shape) (ps : List Tm) (a : Int) : tdeep (.mk k o n z ns vs ss ps a) = 1 + tdeeps ps := by rw [tdeep]
theorem tsize_mem : ∀ {l : List Tm} {s : Tm}, s ∈ l → tsize s ≤ tsizes l
 | x :: r, s, h => by
  rw [tsizes]
  rcases List.mem_cons.1 h with rfl | h
  ·omega
  ·have := tsize_mem h; omega
theorem tsizes_take : ∀ {l : List Tm} {i : Nat} {s : Tm}, l[i]? = some s → tsizes (l.take (i + 1)) = tsizes (l.take i) + tsize s
 | x :: r, 0, s, h => by simp at h; subst h; simp [tsizes]
 | x :: r, i + 1, s, h => by
  have := tsizes_take (l := r) (i := i) (s := s) (by simpa using h)
  rw [List.take_succ_cons, List.take_succ_cons, tsizes, tsizes, this]
  omega
theorem tsizes_le : ∀ (l : List Tm) (i : Nat), tsizes (l.take i) ≤ tsizes l
 | [], i => by simp
 | x :: r, 0 => by simp [tsizes]
 | x :: r, i + 1 => by
  rw [List.take_succ_cons, tsizes, tsizes]
  have := tsizes_le r i
  omega
theorem tdeeps_take : ∀ {l : List Tm} {i : Nat} {s : Tm}, l[i]? = some s → tdeeps (l.take (i + 1)) = max (tdeeps (l.take i)) (tdeep s)
 | x :: r, 0, s, h => by simp at h; subst h; simp [tdeeps]
 | x :: r, i + 1, s, h => by
  have := tdeeps_take (l := r) (i := i) (s := s) (by simpa using h)
  rw [List.take_succ_cons, List.take_succ_cons, tdeeps, tdeeps, this]
  omega
mutual
def sopen : Shape → Bool
 | .mk k _ _ _ ps => decide (k ≠ 10) && sopens ps
def sopens : List Shape → Bool
 | [] => true
 | s :: r => sopen s && sopens r
end
theorem sopens_all : ∀ l : List Shape, sopens l = l.all sopen
 | [] => by rw [sopens]; rfl
 | s :: r => by rw [sopens, sopens_all r]; rfl
def typed (s : Shape) : Bool := decide (check s = 0) && sopen s
def tquot (t : B) : Bool := t.all (fun c => decide (32 ≤ c.toNat) || c == 10 || c == 9) && (utfBad t).isNone
def apartB (l : List B) : Bool := l.all isName && decide l.Nodup
def tbad (k : Int) (o : B) (z : Int) (ss : List Shape) (a : Int) : Bool := decide (a < 0 ∨ (z ≠ 0 ∧ k ≠ 1) ∨ (o ≠ [] ∧ k ≠ 5) ∨ ss.all typed = false)
def troom (ns vs : List B) (ss : List Shape) (ps : List Tm) (a b c d : Nat) : Bool := decide (ns.length = a ∧ vs.length = b ∧ ss.length = c ∧ ps.length = d)
def tkind (k : Int) (o n : B) (z : Int) (ns vs : List B) (ss : List Shape) (ps : List Tm) : Bool :=
 if k = 1 then n.isEmpty && decide (0 ≤ z) && decide (z ≤ 999999999999999) && troom ns vs ss ps 0 0 0 0
 else if k = 2 then tquot n && troom ns vs ss ps 0 0 0 0
 else if k = 3 ∨ k = 4 then n.isEmpty && troom ns vs ss ps 0 0 0 0
 else if k = 5 then isName n && (o.isEmpty || isName o) && troom ns vs ss ps 0 0 0 0
 else if k = 6 then n.isEmpty && decide (ns.length ≤ 4096) && apartB ns && troom ns vs ss ps ns.length 0 ns.length 1
 else if k = 7 then n.isEmpty && decide (0 < ps.length) && troom ns vs ss ps 0 0 0 ps.length
 else if k = 8 then n.isEmpty && apartB ns && troom ns vs ss ps ns.length 0 0 ns.length
 else if k = 9 ∨ k = 10 then isName n && troom ns vs ss ps 0 0 0 1
 else if k = 11 then n.isEmpty && troom ns vs ss ps 0 0 1 ps.length
 else if k = 12 then n.isEmpty && troom ns vs ss ps 0 0 1 3
 else if k = 13 then n.isEmpty && apartB ns && vs.all isName && troom ns vs ss ps ns.length ns.length (ns.length + 1) (ns.length + 1)
 else if k = 14 then isName n && troom ns vs ss ps 0 0 0 2
 else if k = 15 then n.isEmpty && troom ns vs ss ps 0 0 1 1
 else if k = 16 ∨ k = 17 then isUpper n && troom ns vs ss ps 0 0 0 1
 else false
def tfit : Tm → Bool
 | .mk k o n z ns vs ss ps a => !tbad k o z ss a && tkind k o n z ns vs ss ps
mutual
def tright : Tm → Bool
 | .mk k o n z ns vs ss ps a => tfit (.mk k o n z ns vs ss ps a) && trights ps
def trights : List Tm → Bool
 | [] => true
 | s :: r => tright s && trights r
end
theorem trights_all : ∀ l : List Tm, trights l = l.all tright
 | [] => by rw [trights]; rfl
 | s :: r => by rw [trights, trights_all r]; rfl
def tcheck (t : Tm) : Nat := if 4096 < tsize t then 3 else if 40 < tdeep t then 91 else if tright t then 0 else 80
mutual
def tmP (P : Tm → Prop) : Tm → Prop
 | .mk k o n z ns vs ss ps a => P (.mk k o n z ns vs ss ps a) ∧ tmPs P ps
def tmPs (P : Tm → Prop) : List Tm → Prop
 | [] => True
 | s :: r => tmP P s ∧ tmPs P r
end
theorem tmPs_mem {P : Tm → Prop} : ∀ {l : List Tm}, tmPs P l → ∀ s ∈ l, tmP P s
 | a :: r, h, s, hs => by
  rw [tmPs] at h
  rcases List.mem_cons.1 hs with rfl | hs
  ·exact h.1
  ·exact tmPs_mem h.2 s hs
end Go.Tms
end
section
namespace Go.Lift
open Go.Shp Go.Tms
def tmCells (k : Int) (o : ByteArray) (n : ByteArray) (z : Int) (ns : Sl) (vs : Sl) (ss : Sl) (ps : Sl) (at1 : Int) : List Value := [.int .i64 k, .string o, .string n, .int .i64 z, .slice ns.a ns.n ns.c, .slice vs.a vs.n vs.c, .slice ss.a ss.n ss.c, .slice ps.a ps.n ps.c, .int .i64 at1]
@[reducible] def tmArg (k : Int) (o : ByteArray) (n : ByteArray) (z : Int) (ns : Sl) (vs : Sl) (ss : Sl) (ps : Sl) (at1 : Int) : Value := .agg #[.int .i64 k, .string o, .string n, .int .i64 z, .slice ns.a ns.n ns.c, .slice vs.a vs.n vs.c, .slice ss.a ss.n ss.c, .slice ps.a ps.n ps.c, .int .i64 at1]
mutual
def TmV (w : World) (k : Int) (o : ByteArray) (n : ByteArray) (z : Int) (ns : Sl) (vs : Sl) (ss : Sl) (ps : Sl) (at1 : Int) : Tm → Prop
 | .mk k' o' n' z' names vars shapes parts a' => k = k' ∧ bl o = o' ∧ bl n = n' ∧ z = z' ∧ at1 = a' ∧ (RdS w ns (names.map bs) ∧ RdS w vs (vars.map bs) ∧ names.length * 16 ≤ 140737488351232 ∧ vars.length * 16 ≤ 140737488351232 ∧ ss.n = shapes.length ∧ shapes.length < 4611686018427387904 ∧ ps.n = parts.length ∧ parts.length < 4611686018427387904 ∧ o.size < 4611686018427387904 ∧ n.size < 4611686018427387904 ∧ (∀ x ∈ names, x.length < 4611686018427387904) ∧ (∀ x ∈ vars, x.length < 4611686018427387904)) ∧ ShL w ss.a 0 shapes ∧ TmL w ps.a 0 parts
def TmL (w : World) (a : Option Addr) (i : Nat) : List Tm → Prop
 | [] => True
 | s :: r => (∃ (g off : Nat) (k : Int) (o : ByteArray) (n : ByteArray) (z : Int) (ns : Sl) (vs : Sl) (ss : Sl) (ps : Sl) (at1 : Int), a = some ⟨g, off, none⟩ ∧ w.cell? ⟨g, off + i * 9, none⟩ = some (.int .i64 k) ∧ w.cell? ⟨g, off + i * 9 + 1, none⟩ = some (.string o) ∧ w.cell? ⟨g, off + i * 9 + 2, none⟩ = some (.string n) ∧ w.cell? ⟨g, off + i * 9 + 3, none⟩ = some (.int .i64 z) ∧ w.cell? ⟨g, off + i * 9 + 4, none⟩ = some (.slice ns.a ns.n ns.c) ∧ w.cell? ⟨g, off + i * 9 + 5, none⟩ = some (.slice vs.a vs.n vs.c) ∧ w.cell? ⟨g, off + i * 9 + 6, none⟩ = some (.slice ss.a ss.n ss.c) ∧ w.cell? ⟨g, off + i * 9 + 7, none⟩ = some (.slice ps.a ps.n ps.c) ∧ w.cell? ⟨g, off + i * 9 + 8, none⟩ = some (.int .i64 at1) ∧ TmV w k o n z ns vs ss ps at1 s) ∧ TmL w a (i + 1) r
end
mutual
theorem TmV.fr {w w' : World} (F : Fr noB w w') : ∀ {s : Tm} {k : Int} {o : ByteArray} {n : ByteArray} {z : Int} {ns : Sl} {vs : Sl} {ss : Sl} {ps : Sl} {at1 : Int}, TmV w k o n z ns vs ss ps at1 s → TmV w' k o n z ns vs ss ps at1 s
 | .mk _ _ _ _ _ _ _ _ _, _, _, _, _, _, _, _, _, _, h => by
  unfold TmV at h ⊢
  exact ⟨h.1, h.2.1, h.2.2.1, h.2.2.2.1, h.2.2.2.2.1, ⟨h.2.2.2.2.2.1.1.fr F, h.2.2.2.2.2.1.2.1.fr F, h.2.2.2.2.2.1.2.2⟩, h.2.2.2.2.2.2.1.fr F, TmL.fr F h.2.2.2.2.2.2.2⟩
theorem TmL.fr {w w' : World} (F : Fr noB w w') : ∀ {l : List Tm} {a : Option Addr} {i : Nat}, TmL w a i l → TmL w' a i l
 | [], _, _, _ => by unfold TmL; trivial
 | s :: r, _, _, h => by
  unfold TmL at h ⊢
  obtain ⟨⟨g, off, k, o, n, z, ns, vs, ss, ps, at1, h0, c0, c1, c2, c3, c4, c5, c6, c7, c8, hv⟩, hr⟩ := h
  exact ⟨⟨g, off, k, o, n, z, ns, vs, ss, ps, at1, h0, F.cell c0 (fun h => h), F.cell c1 (fun h => h), F.cell c2 (fun h => h), F.cell c3 (fun h => h), F.cell c4 (fun h => h), F.cell c5 (fun h => h), F.cell c6 (fun h => h), F.cell c7 (fun h => h), F.cell c8 (fun h => h), TmV.fr F hv⟩, TmL.fr F hr⟩
end
theorem TmL.at {w : World} {a : Option Addr} : ∀ {l : List Tm} {i j : Nat} {s : Tm}, TmL w a i l → l[j]? = some s → ∃ (g off : Nat) (k : Int) (o : ByteArray) (n : ByteArray) (z : Int) (ns : Sl) (vs : Sl) (ss : Sl) (ps : Sl) (at1 : Int), a = some ⟨g, off, none⟩ ∧ w.cell? ⟨g, off + (i + j) * 9, none⟩ = some (.int .i64 k) ∧ w.cell? ⟨g, off + (i + j) * 9 + 1, none⟩ = some (.string o) ∧ w.cell? ⟨g, off + (i + j) * 9 + 2, none⟩ = some (.string n) ∧ w.cell? ⟨g, off + (i + j) * 9 + 3, none⟩ = some (.int .i64 z) ∧ w.cell? ⟨g, off + (i + j) * 9 + 4, none⟩ = some (.slice ns.a ns.n ns.c) ∧ w.cell? ⟨g, off + (i + j) * 9 + 5, none⟩ = some (.slice vs.a vs.n vs.c) ∧ w.cell? ⟨g, off + (i + j) * 9 + 6, none⟩ = some (.slice ss.a ss.n ss.c) ∧ w.cell? ⟨g, off + (i + j) * 9 + 7, none⟩ = some (.slice ps.a ps.n ps.c) ∧ w.cell? ⟨g, off + (i + j) * 9 + 8, none⟩ = some (.int .i64 at1) ∧ TmV w k o n z ns vs ss ps at1 s
 | [], _, _, _, _, hj => by simp at hj
 | x :: r, i, 0, s, h, hj => by
  unfold TmL at h
  simp only [List.getElem?_cons_zero, Option.some.injEq] at hj
  subst hj
  exact h.1
 | x :: r, i, j + 1, s, h, hj => by
  unfold TmL at h
  have := TmL.at h.2 (by simpa using hj)
  rw [show i + (j + 1) = i + 1 + j by omega]
  exact this
section
variable {R : Ending → World → Prop} {w : World}
theorem tmpart_ld0 {w0 : World} {l : List Tm} {a : Option Addr} {len i : Nat} {s : Tm} {K : Int → ByteArray → ByteArray → Int → Sl → Sl → Sl → Sl → Int → G} (h : TmL w0 a 0 l) (F : Fr noB w0 w) (hs : l[i]? = some s) (hl : len = l.length)
  (hk : ∀ k o n z ns vs ss ps at1, TmV w0 k o n z ns vs ss ps at1 s → K k o n z ns vs ss ps at1 R w) :
  idxG a len (i : Int) 9 (fun (x : Addr) => ldG (.int .i64) (x.add 0) (fun (k : Int) => ldG (.str) (x.add 1) (fun (o : ByteArray) => ldG (.str) (x.add 2) (fun (n : ByteArray) => ldG (.int .i64) (x.add 3) (fun (z : Int) => ldG (.slice) (x.add 4) (fun (ns : Sl) => ldG (.slice) (x.add 5) (fun (vs : Sl) => ldG (.slice) (x.add 6) (fun (ss : Sl) => ldG (.slice) (x.add 7) (fun (ps : Sl) => ldG (.int .i64) (x.add 8) (fun (at1 : Int) => K k o n z ns vs ss ps at1)))))))))) R w := by
 obtain ⟨g, off, k, o, n, z, ns, vs, ss, ps, at1, rfl, c0, c1, c2, c3, c4, c5, c6, c7, c8, hv⟩ := h.at hs
 have hi := (List.getElem?_eq_some_iff.1 hs).1
 rw [Nat.zero_add] at c0 c1 c2 c3 c4 c5 c6 c7 c8
 refine idxB_ok (n := len) (i := i) (by omega) ?_
 simp only [Addr.add_lit, Nat.add_zero]
 exact ld_ok (c := .int .i64) (F.cell c0 fun h => h) (ld_ok (c := .str) (F.cell c1 fun h => h) (ld_ok (c := .str) (F.cell c2 fun h => h) (ld_ok (c := .int .i64) (F.cell c3 fun h => h) (ld_ok (c := .slice) (x := ns) (F.cell c4 fun h => h) (ld_ok (c := .slice) (x := vs) (F.cell c5 fun h => h) (ld_ok (c := .slice) (x := ss) (F.cell c6 fun h => h) (ld_ok (c := .slice) (x := ps) (F.cell c7 fun h => h) (ld_ok (c := .int .i64) (F.cell c8 fun h => h) (hk k o n z ns vs ss ps at1 hv)))))))))
theorem Blk.ld_tm {m : Nat} {t : TypeId} {k : Int} {o : ByteArray} {n : ByteArray} {z : Int} {ns : Sl} {vs : Sl} {ss : Sl} {ps : Sl} {at1 : Int} (B : Blk w m t (tmCells k o n z ns vs ss ps at1)) {K : Int → ByteArray → ByteArray → Int → Sl → Sl → Sl → Sl → Int → G} (h : K k o n z ns vs ss ps at1 R w) :
  ldG (.int .i64) (⟨m, 0, none⟩) (fun (k : Int) => ldG (.str) (⟨m, 1, none⟩) (fun (o : ByteArray) => ldG (.str) (⟨m, 2, none⟩) (fun (n : ByteArray) => ldG (.int .i64) (⟨m, 3, none⟩) (fun (z : Int) => ldG (.slice) (⟨m, 4, none⟩) (fun (ns : Sl) => ldG (.slice) (⟨m, 5, none⟩) (fun (vs : Sl) => ldG (.slice) (⟨m, 6, none⟩) (fun (ss : Sl) => ldG (.slice) (⟨m, 7, none⟩) (fun (ps : Sl) => ldG (.int .i64) (⟨m, 8, none⟩) (fun (at1 : Int) => K k o n z ns vs ss ps at1))))))))) R w :=
 B.ld (c := .int .i64) (x := k) (o := 0) rfl (B.ld (c := .str) (x := o) (o := 1) rfl (B.ld (c := .str) (x := n) (o := 2) rfl (B.ld (c := .int .i64) (x := z) (o := 3) rfl (B.ldS (o := 4) rfl (B.ldS (o := 5) rfl (B.ldS (o := 6) rfl (B.ldS (o := 7) rfl (B.ld (c := .int .i64) (x := at1) (o := 8) rfl (h)))))))))
theorem fill9_ok {m : Nat} {t : TypeId} {l : List Value} {v0 v1 v2 v3 v4 v5 v6 v7 v8 : Value} {k : G} (B : Blk w m t l) (hl : l.length = 9) (h0 : v0.oneCell' = true) (h1 : v1.oneCell' = true) (h2 : v2.oneCell' = true) (h3 : v3.oneCell' = true) (h4 : v4.oneCell' = true) (h5 : v5.oneCell' = true) (h6 : v6.oneCell' = true) (h7 : v7.oneCell' = true) (h8 : v8.oneCell' = true)
  (hk : ∀ w', Blk w' m t [v0, v1, v2, v3, v4, v5, v6, v7, v8] → Fr (oneB m) w w' → k R w') : stG (⟨m, 0, none⟩) v0 (stG (⟨m, 1, none⟩) v1 (stG (⟨m, 2, none⟩) v2 (stG (⟨m, 3, none⟩) v3 (stG (⟨m, 4, none⟩) v4 (stG (⟨m, 5, none⟩) v5 (stG (⟨m, 6, none⟩) v6 (stG (⟨m, 7, none⟩) v7 (stG (⟨m, 8, none⟩) v8 (k))))))))) R w := by
 match l, hl with
 | [a0, a1, a2, a3, a4, a5, a6, a7, a8], _ =>
  refine B.st h0 (by simp) fun w1 B1 F1 => B1.st h1 (by simp) fun w2 B2 F2 => B2.st h2 (by simp) fun w3 B3 F3 => B3.st h3 (by simp) fun w4 B4 F4 => B4.st h4 (by simp) fun w5 B5 F5 => B5.st h5 (by simp) fun w6 B6 F6 => B6.st h6 (by simp) fun w7 B7 F7 => B7.st h7 (by simp) fun w8 B8 F8 => B8.st h8 (by simp) fun w9 B9 F9 => ?_
  exact hk _ B9 (st_fr (st_fr (st_fr (st_fr (st_fr (st_fr (st_fr (st_fr F1 F2) F3) F4) F5) F6) F7) F8) F9)
theorem TmV.parts {k : Int} {o : ByteArray} {n : ByteArray} {z : Int} {ns : Sl} {vs : Sl} {ss : Sl} {ps : Sl} {at1 : Int} {s : Tm} (h : TmV w k o n z ns vs ss ps at1 s) : k = s.kind ∧ bl o = s.of ∧ bl n = s.name ∧ z = s.num ∧ at1 = s.at' ∧ (RdS w ns (s.names.map bs) ∧ RdS w vs (s.vars.map bs) ∧ s.names.length * 16 ≤ 140737488351232 ∧ s.vars.length * 16 ≤ 140737488351232 ∧ ss.n = s.shapes.length ∧ s.shapes.length < 4611686018427387904 ∧ ps.n = s.parts.length ∧ s.parts.length < 4611686018427387904 ∧ o.size < 4611686018427387904 ∧ n.size < 4611686018427387904 ∧ (∀ x ∈ s.names, x.length < 4611686018427387904) ∧ (∀ x ∈ s.vars, x.length < 4611686018427387904)) ∧ ShL w ss.a 0 s.shapes ∧ TmL w ps.a 0 s.parts := by
 cases s
 unfold TmV at h
 exact h
end
end Go.Lift
end
