/- The law behind: one part of its proof (joined by program out of my own texts). No condition. -/
import Derived.Test.YtngfnokbdcjoeaaGreatDoorValAX
import Derived.Lib.ItoaLen
import Derived.MapKept
section
namespace Go.Lift
def RdT (w : World) (s : Sl) (l : List (Int × ByteArray × Int)) : Prop := s.n = l.length ∧ ∀ k x, l[k]? = some x → ∃ g o, s.a = some ⟨g, o, none⟩ ∧
 w.cell? ⟨g, o + k * 3, none⟩ = some (.int .i64 x.1) ∧ w.cell? ⟨g, o + k * 3 + 1, none⟩ = some (.string x.2.1) ∧ w.cell? ⟨g, o + k * 3 + 2, none⟩ = some (.int .i64 x.2.2)
theorem RdT.fr {w w' : World} {s : Sl} {l : List (Int × ByteArray × Int)} (h : RdT w s l) (F : Fr noB w w') : RdT w' s l := ⟨h.1, fun k x hx => by
 obtain ⟨g, o, h1, h2, h3, h4⟩ := h.2 k x hx
 exact ⟨g, o, h1, F.cell h2 (fun h => h), F.cell h3 (fun h => h), F.cell h4 (fun h => h)⟩⟩
end Go.Lift
namespace Go.Proofs.YtngfnokbdcjoeaaGreatDoor
open Go.Lift Go.Lex
section
variable {w : World}
end
end Go.Proofs.YtngfnokbdcjoeaaGreatDoor
end
section
namespace Go.Lift
section
variable {R : Ending → World → Prop} {w : World} {base : Nat} {e : TypeId} {n : Nat} {s : Sl} {xs : List Value}
theorem own_place (h : w.ownsRow base e 1 (.slice s.a s.n s.c) n xs) {i : Nat} (hi : i < n) : s.n = n ∧ ∃ g cur, s.a = some ⟨g, 0, none⟩ ∧ base ≤ g ∧ Blk w g e cur ∧ n ≤ s.c ∧ cur.length = s.c ∧ cur.take n = xs ∧ s.c ≤ maxLen := by
 rcases h.2 with ⟨_, h0⟩ | ⟨g, cap, cur, hv, hb, hg, hnc, hcm, hsz, htk⟩
 ·omega
 ·simp only [Value.slice.injEq] at hv
  obtain ⟨e1, e2, e3⟩ := hv
  refine ⟨e2, g, cur.toList, e1, hb, hg, by omega, ?_, ?_, by omega⟩
  ·simp only [Nat.mul_one] at hsz
   rw [Array.length_toList]
   omega
  ·rw [Nat.mul_one] at htk
   exact htk
theorem own_get (h : w.ownsRow base e 1 (.slice s.a s.n s.c) n xs) {i : Nat} {x : ByteArray} (hx : xs[i]? = some (.string x)) {K : ByteArray → G} (hk : K x R w) : idxG s.a s.n (i : Int) 1 (fun (a : Addr) => ldG .str a K) R w := by
 have hl := h.1
 have hi : i < n := by have := (List.getElem?_eq_some_iff.1 hx).1; omega
 obtain ⟨hn, g, cur, ha, _, B, _, _, htk, _⟩ := own_place h hi
 rw [ha]
 refine idxB_ok (n := s.n) (i := i) (by omega) (B.ld (c := .str) (x := x) (o := 0 + i * 1) ?_ hk)
 rw [← htk, List.getElem?_take, if_pos hi] at hx
 rw [Nat.zero_add, Nat.mul_one]
 exact hx
theorem own_put (h : w.ownsRow base e 1 (.slice s.a s.n s.c) n xs) {i : Nat} (hi : i < n) {v : Value} (h1 : v.oneCell' = true) {k : G}
  (hk : ∀ w', w'.ownsRow base e 1 (.slice s.a s.n s.c) n (xs.set i v) → Fr (fun b => base ≤ b) w w' → w'.heap.size = w.heap.size → k R w') : idxG s.a s.n (i : Int) 1 (fun (a : Addr) => stG a v k) R w := by
 have hl := h.1
 obtain ⟨hn, g, cur, ha, hb, B, hnc, hcl, htk, hcm⟩ := own_place h hi
 rw [ha]
 refine idxB_ok (n := s.n) (i := i) (by omega) ?_
 rw [Nat.zero_add, Nat.mul_one]
 have hsz : (w.setCell ⟨g, i, none⟩ v).heap.size = w.heap.size := by simp
 refine ⟨h1, ⟨_, B.cell (List.getElem?_eq_getElem (by omega))⟩, B.frozen i, hk _ ⟨by simpa using hl, .inr ⟨g, s.c, (cur.set i v).toArray, by rw [ha, hn], hb, B.set i v, hnc, hcm, by simpa using hcl, ?_⟩⟩ ?_ hsz⟩
 ·rw [Nat.mul_one, List.toList_toArray, List.take_set, htk]
 ·exact (fr_setCell w ⟨g, i, none⟩ v).mono fun x _ hx => by unfold oneB at hx; subst hx; exact hb
end
end Go.Lift
namespace Go.Shp
open Go.Lex
theorem show1_len {t q : B} (h : show1 4 t = some q) : q = quote t ∧ (quote t).length ≤ 4096 := by
 unfold show1 at h
 have hw : Go.Lex.written 4 t = quote t := rfl
 rw [hw] at h
 have hl : (quote t).length ≤ 4096 := by
  rcases Nat.lt_or_ge 4096 (quote t).length with h' | h'
  ·unfold scan at h
   rw [if_pos h'] at h
   cases h
  ·exact h'
 refine ⟨?_, hl⟩
 split at h
 ·split at h
  ·exact (Option.some.inj h).symm
  ·cases h
 ·cases h
theorem itoa_len {z : Int} (h1 : -9223372036854775808 ≤ z) (h2 : z ≤ 9223372036854775807) : (Lib.itoa z).length ≤ 21 := by
 unfold Lib.itoa
 split
 ·rw [List.length_cons, Lib.decDigits_length]
  have := Lib.nDigits_le20 z.natAbs (by omega)
  omega
 ·rw [Lib.decDigits_length]
  have := Lib.nDigits_le20 z.toNat (by omega)
  omega
theorem join_len {l : List B} {sep : B} {m : Nat} (h : (l.map List.length).sum ≤ m) : (Lib.join l sep).length ≤ m + sep.length * l.length := by
 have tail : ∀ (l : List B), (Lib.joinTail sep l).length = (l.map List.length).sum + sep.length * l.length := by
  intro l
  induction l with
  | nil => rfl
  | cons x r ih =>
   rw [show Lib.joinTail sep (x :: r) = sep ++ x ++ Lib.joinTail sep r by simp [Lib.joinTail], List.length_append, List.length_append, ih, List.map_cons, List.sum_cons, List.length_cons, Nat.mul_succ]
   omega
 cases l with
 | nil => simp [Lib.join]
 | cons x r =>
  rw [Lib.join_cons, List.length_append, tail r, List.length_cons, Nat.mul_succ]
  rw [List.map_cons, List.sum_cons] at h
  omega
theorem name_len {n : B} (h : isName n = true) : n.length ≤ 24 := by
 unfold isName named at h
 cases n with
 | nil => cases h
 | cons c r => simp only [Bool.and_eq_true, decide_eq_true_eq] at h; exact h.1.1.1
theorem upper_len {n : B} (h : isUpper n = true) : n.length ≤ 24 := by
 unfold isUpper named at h
 cases n with
 | nil => cases h
 | cons c r => simp only [Bool.and_eq_true, decide_eq_true_eq] at h; exact h.1.1
mutual
def vnum : Shape → Prop
 | .mk q _ _ _ ps => (-9223372036854775808 ≤ zOf q ∧ zOf q ≤ 9223372036854775807) ∧ vnums ps
def vnums : List Shape → Prop
 | [] => True
 | s :: r => vnum s ∧ vnums r
end
theorem vnums_of : ∀ {l : List Shape}, (∀ s ∈ l, vnum s) → vnums l
 | [], _ => by rw [vnums]; trivial
 | s :: r, h => by rw [vnums]; exact ⟨h s List.mem_cons_self, vnums_of fun x hx => h x (List.mem_cons_of_mem _ hx)⟩
theorem vnums_mem : ∀ {l : List Shape}, vnums l → ∀ s ∈ l, vnum s
 | x :: r, h, s, hs => by
  rw [vnums] at h
  rcases List.mem_cons.1 hs with rfl | hs
  ·exact h.1
  ·exact vnums_mem h.2 s hs
theorem vquot_parts {q : Int} {o t : B} {ns : List B} {ps : List Shape} (h : vquot (.mk q o t ns ps) = true) : (kOf q = 2 → (show1 4 t).isSome = true) ∧ ∀ s ∈ ps, vquot s = true := by
 rw [vquot, vquots_all, Bool.and_eq_true, Bool.or_eq_true, decide_eq_true_eq, List.all_eq_true] at h
 exact ⟨fun hk => h.1.resolve_left fun hn => hn hk, h.2⟩
theorem sum_le {l : List Shape} {f : Shape → Nat} (h : ∀ s ∈ l, f s + 100 ≤ 5000 * size s) : (l.map f).sum + 100 * l.length ≤ 5000 * (l.map size).sum := by
 induction l with
 | nil => simp
 | cons x r ih =>
  have h1 := h x List.mem_cons_self
  have h2 := ih fun s hs => h s (List.mem_cons_of_mem _ hs)
  simp only [List.map_cons, List.sum_cons, List.length_cons]
  omega
theorem zip_len : ∀ (ns : List B) (ps : List Shape), (∀ n ∈ ns, n.length ≤ 24) → (((ns.zip ps).map ftext).map List.length).sum ≤ (ps.map fun s => (vtext s).length).sum + 27 * ps.length
 | [], _, _ => by simp
 | _ :: _, [], _ => by simp
 | n :: ns, p :: ps, h => by
  have h1 := h n List.mem_cons_self
  have h2 := zip_len ns ps fun x hx => h x (List.mem_cons_of_mem _ hx)
  have h3 : (ftext (n, p)).length = n.length + (3 + (vtext p).length) := by
   show (n ++ 32 :: 61 :: 32 :: vtext p).length = _
   simp only [List.length_append, List.length_cons]
   omega
  simp only [List.zip_cons_cons, List.map_cons, List.sum_cons, List.length_cons, h3]
  omega
theorem sizes_sum : ∀ l : List Shape, sizes l = (l.map size).sum
 | [] => by rw [sizes]; rfl
 | s :: r => by rw [sizes, sizes_sum r]; rfl
theorem vtext_len : ∀ (d : Nat) (s : Shape), size s ≤ d → formed s = true → vquot s = true → vnum s → (vtext s).length + 100 ≤ 5000 * size s
 | 0, s, h, _, _, _ => by have := size_pos s; omega
 | d + 1, .mk q o t ns ps, hd, hf, hq, hn => by
  rw [size_mk] at hd ⊢
  rw [vnum] at hn
  obtain ⟨hv, hfp⟩ := formed_parts hf
  obtain ⟨hq1, hqp⟩ := vquot_parts hq
  have hnp := vnums_mem hn.2
  have ih : ∀ s ∈ ps, (vtext s).length + 100 ≤ 5000 * size s := fun s hs => vtext_len d s (by have := size_mem hs; omega) (hfp s hs) (hqp s hs) (hnp s hs)
  have hsum := sum_le ih
  rw [sizes_sum] at hd ⊢
  have e : (vtexts ps).map List.length = ps.map fun s => (vtext s).length := by rw [vtexts_map, List.map_map]; rfl
  have el : (vtexts ps).length = ps.length := by rw [vtexts_map, List.length_map]
  have hh : (((vtexts ps).headD []).length) ≤ (ps.map fun s => (vtext s).length).sum := by
   rw [vtexts_map]
   cases ps with
   | nil => simp
   | cons a r => simp only [List.map_cons, List.headD_cons, List.sum_cons]; omega
  have hi := itoa_len hn.1.1 hn.1.2
  obtain ⟨k1, k8⟩ := vform_kind hv
  rcases (by omega : kOf q = 1 ∨ kOf q = 2 ∨ kOf q = 3 ∨ kOf q = 4 ∨ kOf q = 5 ∨ kOf q = 6 ∨ kOf q = 7 ∨ kOf q = 8) with k | k | k | k | k | k | k | k
  ·rw [text1 k]; omega
  ·rw [text2 k]
   obtain ⟨x, hx⟩ := Option.isSome_iff_exists.1 (hq1 k)
   have := (show1_len hx).2
   omega
  ·rw [text3 k]
   split <;> (simp only [List.length_cons, List.length_nil]; omega)
  ·rw [vtext, if_neg (by omega), if_neg (by omega), if_neg (by omega), if_pos k]
   have := join_len (l := vtexts ps) (sep := [44, 32]) (m := (ps.map fun s => (vtext s).length).sum) (by rw [e]; exact Nat.le_refl _)
   simp only [List.length_cons, List.length_append, List.length_nil] at this ⊢
   omega
  ·obtain ⟨_, _, _, hl, hnm, _⟩ := form5 hv k
   rw [text5 k]
   have hz := zip_len ns ps fun n hn => name_len (hnm n hn)
   have := join_len (sep := [44, 32]) hz
   simp only [List.length_cons, List.length_append, List.length_nil, List.length_map, List.length_zip] at this ⊢
   omega
  ·obtain ⟨_, _, _, ht, _⟩ := form6 hv k
   have := name_len ht
   rw [vtext, if_neg (by omega), if_neg (by omega), if_neg (by omega), if_neg (by omega), if_neg (by omega), if_pos k]
   simp only [List.length_cons, List.length_append, List.length_nil] at this ⊢
   omega
  ·obtain ⟨ho, ht, _⟩ := form7 hv k
   have h1 := name_len ho
   have h2 := upper_len ht
   rw [vtext, if_neg (by omega), if_neg (by omega), if_neg (by omega), if_neg (by omega), if_neg (by omega), if_neg (by omega), if_pos k]
   simp only [List.length_cons, List.length_append, List.length_nil] at h1 h2 ⊢
   omega
  ·rw [text8 k]
   simp only [List.length_cons, List.length_append, List.length_nil]
   omega
end Go.Shp
end
section
namespace Go.Proofs.YtngfnokbdcjoeaaGreatDoor
open Go.Lift Go.Lex Go.Shp
theorem FmtInt_ok {w : World} (hg : GlobV w) {z : Int} (h : okN z) : Calls Tryz.prog 63 #[.int .i64 z, .int .i64 10] w fun e w' => e = .returned (.string (bs (Lib.itoa z))) ∧ Fr noB w w' :=
 (Tryz.strconv_FormatInt_10 z h.1 h.2 w hg.pow).mono fun e w' ⟨h1, k, os, h2⟩ => ⟨h1, by rw [h2]; exact fr_growN _ _ _⟩
theorem catB_ok {R : Ending → World → Prop} {w : World} {a b : B} {k : ByteArray → G} (hs : a.length + b.length ≤ 9223372036854775807) (h : k (bs (a ++ b)) R w) : catG (bs a) (bs b) k R w := by
 refine cat_ok (by rw [bs_size, bs_size]; exact hs) ?_
 rw [bs_append]
 exact h
theorem joinC_ok {base : Nat} {l : Sl} {L : List B} {sep : B} {w : World} (hown : w.ownsRow base 9 1 (.slice l.a l.n l.c) L.length (L.map fun x => .string (bs x))) (hlen : (Lib.join L sep).length ≤ 140737488355328) (hl : L.length ≤ 140737488355328) :
  Calls Tryz.prog 65 #[.slice l.a l.n l.c, .string (bs sep)] w fun e w' => e = .returned (.string (bs (Lib.join L sep))) ∧ Fr noB w w' := by
 rcases hown.2 with ⟨h, h0⟩ | ⟨g, cap, cur, h, _, hg1, hcap, _⟩
 ·have : L = [] := List.eq_nil_of_length_eq_zero h0
  subst this
  simp only [Value.slice.injEq] at h
  rw [h.1, h.2.1, h.2.2]
  exact (Tryz.strings_Join_none none 0 (bs sep) w).mono fun e w' ⟨h1, h2⟩ => ⟨h1, by rw [h2]; exact Fr.refl _ _⟩
 ·simp only [Value.slice.injEq] at h
  have hmap : (L.map bs).map (fun x => x.data.toList) = L := by
   rw [List.map_map]
   conv => rhs; rw [← List.map_id L]
   exact List.map_congr_left fun x _ => bl_bs x
  have hj := Tryz.strings_Join g 0 cap (L.map bs) (bs sep) w (fun j x hx => by
   rw [List.getElem?_map, Option.map_eq_some_iff] at hx
   obtain ⟨y, hy, rfl⟩ := hx
   have := hown.cells (g := g) (by rw [h.1]; rfl) j (.string (bs y)) (by rw [List.getElem?_map, hy]; rfl)
   rw [Addr.add_lit] at this
   exact this) (Array.getElem?_eq_some_iff.1 hg1).1 (by rw [List.length_map]; exact hl) (by rw [List.length_map]; exact hcap) (by rw [hmap, show (bs sep).data.toList = sep from bl_bs sep]; exact hlen)
  rw [hmap, List.length_map, show (bs sep).data.toList = sep from bl_bs sep] at hj
  rw [h.1, h.2.1, h.2.2]
  exact hj.mono fun e w' ⟨h1, h2⟩ => ⟨h1, fr_below h2⟩
theorem mix_set {α : Type} : ∀ {A T : List α} {i : Nat} {x : α}, A.length = T.length → A[i]? = some x → (A.take i ++ T.drop i).set i x = A.take (i + 1) ++ T.drop (i + 1)
 | [], _, _, _, _, h => by simp at h
 | _ :: _, [], _, _, h, _ => by simp at h
 | a :: A, t :: T, 0, x, _, h => by simp at h; simp [h]
 | a :: A, t :: T, i + 1, x, h, hx => by
  have := mix_set (A := A) (T := T) (i := i) (x := x) (by simpa using h) (by simpa using hx)
  simpa using this
theorem mix_get {α : Type} {A T : List α} {i : Nat} (h : A.length = T.length) (hi : i < T.length) : (A.take i ++ T.drop i)[i]? = T[i]? := by
 rw [List.getElem?_append_right (by rw [List.length_take]; omega), List.length_take, List.getElem?_drop, show i + (i - min i A.length) = i by omega]
set_option maxHeartbeats 4000000 in
theorem vshown_ok : ∀ (d : Nat) (s : Shape), size s ≤ d → size s ≤ 2000 → formed s = true → vquot s = true → vtP QuotC s → ∀ {w : World} {k z : Int} {o n : ByteArray} {ns ps : Sl}, GlobV w → VaV w k z o n ns ps s → vnum s →
  Calls Tryz.prog 38 #[vaArg k z o n ns ps] w fun e w' => e = .returned (.string (bs (vtext s))) ∧ Fr noB w w'
 | 0, s, h, _, _, _, _, _, _, _, _, _, _, _, _, _, _ => by have := size_pos s; omega
 | d + 1, .mk q oA nA names parts, hd, hd2, hform, hquot, hq, w, k, z, o, n, ns, ps, hg, hv, hnum => by
  have hlen := vtext_len _ _ (Nat.le_refl _) hform hquot hnum
  rw [size_mk] at hd hd2 hlen
  rw [vtP] at hq
  rw [vnum] at hnum
  have hnp := vnums_mem hnum.2
  obtain ⟨hvf, hfp⟩ := formed_parts hform
  obtain ⟨hq1, hqp⟩ := vquot_parts hquot
  obtain ⟨ek, eo, en, ⟨hz, hns, hnl, hpn, hpl, _⟩, hps⟩ := hv.parts
  change q = vk k z at ek
  change bl o = oA at eo
  change bl n = nA at en
  change RdS w ns (names.map bs) at hns
  change ps.n = parts.length at hpn
  change parts.length < 4611686018427387904 at hpl
  change VaL w ps.a 0 parts at hps
  have hnn := hns.1
  rw [List.length_map] at hnn
  have hplen : parts.length ≤ 2000 := by have := sizes_len parts; omega
  have hk : kOf q = k := by rw [ek]; exact kOf_vk hz.1 hz.2
  have hzz : zOf q = z := by rw [ek]; exact zOf_vk hz.1 hz.2
  have eo' : o = bs oA := by rw [← eo, bs_bl]
  have en' : n = bs nA := by rw [← en, bs_bl]
  have hpart : ∀ p ∈ parts, (vtext p).length + 100 ≤ 5000 * size p := fun p hp => vtext_len _ p (Nat.le_refl _) (hfp p hp) (hqp p hp) (hnp p hp)
  have hsz2 : ∀ p ∈ parts, size p ≤ 2000 := fun p hp => by have := size_mem hp; omega
  obtain ⟨ti, zz, hi, hz0, e1, e2, e3⟩ := rStr
  apply c38
  unfold t38 wrZ ivZ tvZ svZ ldIZ ldSZ ldLZ ld6mZ ld6xZ vaZ st6Z nw6Z nz6Z nwZ caSZ caZ jn0Z jnLZ lpIZ lpLIZ ixZ
  refine new_ok fun w1 m6 hm6 hs1 B1 F1 => ?_
  change Blk w1 m6 _ (vaCells k z o n ns ps) at B1
  refine B1.ldS (o := 5) rfl ?_
  refine join1_ok (c := .slice) (fun (l : Sl) w' => w'.ownsRow w1.heap.size 9 1 (.slice l.a l.n l.c) parts.length ((parts.map vtext).map fun x => Value.string (bs x)) ∧ Fr noB w1 w') (fun kend hkend => ?_) ?_
  ·refine loop_ok (vs := [.one .slice, .one (.int .i64)]) (fun xs w' => ∃ i : Nat, i ≤ parts.length ∧ (show Int from xs.2.1.1) = (i : Int) ∧ w'.ownsRow w1.heap.size 9 1 (.slice (show Sl from xs.1.1).a (show Sl from xs.1.1).n (show Sl from xs.1.1).c) i (((parts.take i).map vtext).map fun x => Value.string (bs x)) ∧ Fr noB w1 w')
    (fun xs => parts.length - (show Int from xs.2.1.1).toNat) ?_ (xs := (((⟨none, 0, 0⟩ : Sl), ()), (((0 : Int), ()), ()))) ⟨0, by omega, rfl, ⟨rfl, .inl ⟨rfl, rfl⟩⟩, Fr.refl _ _⟩
   rintro rec ⟨⟨l10, ⟨⟩⟩, ⟨⟨n11, ⟨⟩⟩, ⟨⟩⟩⟩ wi ⟨i, hi', hii, hown, Fi⟩ hrec
   change Sl at l10
   change Int at n11
   change n11 = _ at hii
   subst hii
   change wi.ownsRow _ _ _ (.slice l10.a l10.n l10.c) _ _ at hown
   refine ite_ok (fun hlt => ?_) fun hge => hkend _ _ ⟨?_, Fi⟩
   rotate_left
   ·have hge : ¬ (i : Int) < (ps.n : Int) := of_decide_eq_false hge
    have : i = parts.length := by omega
    subst this
    rw [List.take_length] at hown
    exact hown
   have hlt : (i : Int) < (ps.n : Int) := of_decide_eq_true hlt
   obtain ⟨x, hx⟩ : ∃ x, parts[i]? = some x := ⟨_, List.getElem?_eq_getElem (by omega)⟩
   have hxm := List.mem_of_getElem? hx
   have hsz := size_mem hxm
   unfold joinG
   refine vpart_ld (hps.fr (F1.tr Fi)) hx hpn fun k1 z1 o1 n1 ns1 ps1 hv1 => ?_
   refine new_ok fun w2 m20 hm20 hs2 M2 F2 => fill6_ok M2 rfl rfl rfl rfl rfl rfl rfl fun w3 M3 F3 => ?_
   change Blk w3 m20 _ (vaCells k1 z1 o1 n1 ns1 ps1) at M3
   have J3 : Fr noB wi w3 := F2.fill (by omega) F3
   refine M3.ldW (callS_ok (vshown_ok d x (by omega) (hsz2 x hxm) (hfp x hxm) (hqp x hxm) (vtPs_mem hq.2 x hxm) (hg.frV ((F1.tr Fi).tr J3)) (hv1.fr J3) (hnp x hxm)) fun w4 F4 => ?_)
   refine new_ok fun w5 m28 hm28 hs5 M5 F5 => ?_
   have J5 := (J3.tr F4).tr F5
   have hown5 := own_fr0 hown J5
   refine appendC_ok uStrs hi hz0 e1 e2 (by rw [e3]; rfl) (by omega) (s := l10) hown5 (m := 1) (news := [.string (bs (vtext x))]) rfl (M5.held fun j v hj => by rw [Nat.zero_add]; exact hj) (fun u hu => by rw [List.mem_singleton.1 hu]; rfl)
    (by unfold maxLen; omega) (by omega) (by have := (Fi.tr J5).size; omega) fun l29 w6 hown6 F6 => ?_
   have ewk : IntKind.wrap .i64 ((i : Int) + 1) = ((i + 1 : Nat) : Int) := by rw [wrap_ok (by omega) (by omega)]; omega
   show uncV rec ((l29, ()), ((IntKind.wrap .i64 ((i : Int) + 1), ()), ())) _ w6
   rw [ewk]
   refine hrec _ _ ⟨i + 1, by omega, rfl, ?_, (Fi.tr J5).then F6 fun y hy h => by have := (hown5.lt y h).1; omega⟩ (by show parts.length - ((i + 1 : Nat) : Int).toNat < parts.length - ((i : Nat) : Int).toNat; simp only [Int.toNat_natCast]; omega)
   rw [List.take_add_one, hx, List.map_append, List.map_append]
   exact hown6
  ·rintro l31 w2 ⟨hown, F2⟩
   have B2 := B1.fr F2 (fun h => h)
   have H2 := F1.tr F2
   refine B2.ld (c := .int .i64) (x := k) (o := 0) rfl ?_
   refine join_in (vs := []) ?_
   obtain ⟨k1, k8⟩ := vform_kind hvf
   rw [hk] at k1 k8
   have no : ∀ j : Int, k ≠ j → (k == j) = false := fun j h => beq_eq_false_iff_ne.2 h
   have yes : ∀ j : Int, k = j → (k == j) = true := fun j h => beq_iff_eq.2 h
   have hel : (vtexts parts) = parts.map vtext := vtexts_map parts
   have hown' : w2.ownsRow w1.heap.size 9 1 (.slice l31.a l31.n l31.c) (parts.map vtext).length ((parts.map vtext).map fun x => Value.string (bs x)) := by rw [List.length_map]; exact hown
   have get : ∀ {i : Nat} {p : Shape}, parts[i]? = some p → ((parts.map vtext).map fun x => Value.string (bs x))[i]? = some (.string (bs (vtext p))) := fun h => by rw [List.getElem?_map, List.getElem?_map, h]; rfl
   rcases (by omega : k = 1 ∨ k = 2 ∨ k = 3 ∨ k = 4 ∨ k = 5 ∨ k = 6 ∨ k = 7 ∨ k = 8) with h | h | h | h | h | h | h | h
   ·refine ite_yes (yes _ h) (B2.ld (c := .int .i64) (x := z) (o := 1) rfl (callS_ok (FmtInt_ok (hg.frV H2) hz) fun w3 F3 => ⟨?_, H2.tr F3⟩))
    rw [text1 (hk.trans h), hzz]
   ·refine ite_no (no _ (by omega)) (ite_yes (yes _ h) (B2.ld (c := .str) (x := n) (o := 3) rfl (call_ok (hq.1 (hk.trans h) (hg.toGlob.fr H2) en) ?_)))
    rintro e w3 ⟨r, rfl, hr, F3⟩
    refine ⟨((r, ()), ((_, ()), ())), rfl, ⟨?_, H2.tr F3⟩⟩
    obtain ⟨y, hy⟩ := Option.isSome_iff_exists.1 (hq1 (hk.trans h))
    rw [text2 (hk.trans h), ← (show1_len hy).1, ← hr y hy, bs_bl]
   ·refine ite_no (no _ (by omega)) (ite_no (no _ (by omega)) (ite_yes (yes _ h) (B2.ld (c := .int .i64) (x := z) (o := 1) rfl (callS_ok (Tryz.strconv_FormatBool (z == 1) w2) fun w3 F3 => ⟨?_, by rw [F3]; exact H2⟩))))
    rw [text3 (hk.trans h), hzz]
    by_cases hz1 : z = 1
    ·rw [if_pos hz1, hz1]; rfl
    ·rw [if_neg hz1, beq_eq_false_iff_ne.2 hz1]; rfl
   ·refine ite_no (no _ (by omega)) (ite_no (no _ (by omega)) (ite_no (no _ (by omega)) (ite_yes (yes _ h) ?_)))
    have e4 := text4 (o := oA) (t := nA) (ns := names) (ps := parts) (hk.trans h)
    rw [e4] at hlen
    simp only [List.length_cons, List.length_append, List.length_nil] at hlen
    refine callS_ok (joinC_ok (sep := [44, 32]) hown' (by omega) (by rw [List.length_map]; omega)) fun w3 F3 => ?_
    refine catB_ok (a := [91]) (b := Lib.join (parts.map vtext) [44, 32]) (by simp only [List.length_cons, List.length_nil]; omega) ?_
    refine catB_ok (a := [91] ++ Lib.join (parts.map vtext) [44, 32]) (b := [93]) (by simp only [List.length_cons, List.length_append, List.length_nil]; omega) ⟨?_, H2.tr F3⟩
    rw [e4]
    rfl
   ·refine ite_no (no _ (by omega)) (ite_no (no _ (by omega)) (ite_no (no _ (by omega)) (ite_no (no _ (by omega)) (ite_yes (yes _ h) ?_))))
    have e5 := text5 (o := oA) (t := nA) (ns := names) (ps := parts) (hk.trans h)
    obtain ⟨_, _, _, hnlen, hnm, _⟩ := form5 hvf (hk.trans h)
    rw [e5] at hlen
    simp only [List.length_cons, List.length_append, List.length_nil] at hlen
    have hAT : ((names.zip parts).map ftext).length = (parts.map vtext).length := by simp only [List.length_map, List.length_zip]; omega
    have hTl : (parts.map vtext).length = parts.length := List.length_map _
    refine B2.ldS (o := 4) rfl ?_
    refine join0_ok (fun w' => w'.ownsRow w1.heap.size 9 1 (.slice l31.a l31.n l31.c) parts.length (((names.zip parts).map ftext).map fun x => Value.string (bs x)) ∧ Fr noB w1 w') (fun kend hkend => ?_) ?_
    ·refine countL_ok parts.length (by omega) (fun i w' => w'.ownsRow w1.heap.size 9 1 (.slice l31.a l31.n l31.c) parts.length ((((names.zip parts).map ftext).take i ++ (parts.map vtext).drop i).map fun x => Value.string (bs x)) ∧ Fr noB w1 w') (fun rec i wi hi2 hI hrec => ?_) ⟨hown, F2⟩
     obtain ⟨hownI, Fi⟩ := hI
     refine ite_ok (fun hlt => ?_) fun hge => hkend _ ⟨?_, Fi⟩
     rotate_left
     ·have hge : ¬ (i : Int) < (ns.n : Int) := of_decide_eq_false hge
      have : i = parts.length := by omega
      subst this
      rw [List.take_of_length_le (by omega), List.drop_of_length_le (by omega), List.append_nil] at hownI
      exact hownI
     have hlt : (i : Int) < (ns.n : Int) := of_decide_eq_true hlt
     obtain ⟨p, hp⟩ : ∃ p, parts[i]? = some p := ⟨_, List.getElem?_eq_getElem (by omega)⟩
     obtain ⟨nm, hnm1⟩ : ∃ nm, names[i]? = some nm := ⟨_, List.getElem?_eq_getElem (by omega)⟩
     have hpm := List.mem_of_getElem? hp
     have hl1 := name_len (hnm nm (List.mem_of_getElem? hnm1))
     have hl2 := hpart p hpm
     have hl3 := hsz2 p hpm
     have hget : ((((names.zip parts).map ftext).take i ++ (parts.map vtext).drop i).map fun x => Value.string (bs x))[i]? = some (.string (bs (vtext p))) := by
      rw [List.getElem?_map, mix_get hAT (by omega), List.getElem?_map, hp]; rfl
     have hft : ((names.zip parts).map ftext)[i]? = some (nm ++ [32, 61, 32] ++ vtext p) := by
      rw [List.getElem?_map, (List.getElem?_zip_eq_some (z := (nm, p))).2 ⟨hnm1, hp⟩]
      simp [ftext]
     refine join_in (vs := []) (str_ldA (hns.fr (F1.tr Fi)) hnm1 fun a ha => ?_)
     refine catB_ok (a := nm) (b := [32, 61, 32]) (by simp only [List.length_cons, List.length_nil]; omega) ?_
     refine own_get hownI hget ?_
     refine catB_ok (a := nm ++ [32, 61, 32]) (b := vtext p) (by simp only [List.length_append, List.length_cons, List.length_nil]; omega) ?_
     refine own_put hownI (i := i) (by omega) rfl fun w4 own4 F4 _ => hrec (by omega) _ ⟨?_, Fi.then F4 fun y hy h => by change w1.heap.size ≤ y at h; omega⟩
     have hset := mix_set hAT hft
     rw [← hset, List.map_set]
     exact own4
    ·rintro w3 ⟨own3, F3⟩
     refine callS_ok (joinC_ok (L := (names.zip parts).map ftext) (sep := [44, 32]) (by rw [hAT, hTl]; exact own3) (by omega) (by omega)) fun w4 F4 => ?_
     refine catB_ok (a := [123]) (b := Lib.join ((names.zip parts).map ftext) [44, 32]) (by simp only [List.length_cons, List.length_nil]; omega) ?_
     refine catB_ok (a := [123] ++ Lib.join ((names.zip parts).map ftext) [44, 32]) (b := [125]) (by simp only [List.length_cons, List.length_append, List.length_nil]; omega) ⟨?_, (F1.tr F3).tr F4⟩
     rw [e5]
     rfl
   ·refine ite_no (no _ (by omega)) (ite_no (no _ (by omega)) (ite_no (no _ (by omega)) (ite_no (no _ (by omega)) (ite_no (no _ (by omega)) (ite_yes (yes _ h) ?_)))))
    obtain ⟨_, _, _, hnm, hl⟩ := form6 hvf (hk.trans h)
    obtain ⟨p, rfl⟩ : ∃ p, parts = [p] := by
     match parts, hl with
     | [p], _ => exact ⟨p, rfl⟩
    have e6 := text6 (o := oA) (t := nA) (ns := names) (p := p) (hk.trans h)
    have hl1 := name_len hnm
    have hl2 := hpart p (by simp)
    have hl3 := hsz2 p (by simp)
    refine drew_ok fun w3 F3 _ => ?_
    have B3 := B2.fr F3 (fun h => h)
    refine B3.ld (c := .str) (x := n) (o := 3) rfl ?_
    rw [en']
    refine catB_ok (a := [64]) (b := nA) (by simp only [List.length_cons, List.length_nil]; omega) ?_
    refine catB_ok (a := [64] ++ nA) (b := [40]) (by simp only [List.length_append, List.length_cons, List.length_nil]; omega) ?_
    refine own_get (i := 0) (own_fr0 hown F3) (get rfl) ?_
    refine catB_ok (a := [64] ++ nA ++ [40]) (b := vtext p) (by simp only [List.length_append, List.length_cons, List.length_nil]; omega) ?_
    refine catB_ok (a := [64] ++ nA ++ [40] ++ vtext p) (b := [41]) (by simp only [List.length_append, List.length_cons, List.length_nil]; omega) ⟨?_, H2.tr F3⟩
    rw [e6]
    simp
   ·refine ite_no (no _ (by omega)) (ite_no (no _ (by omega)) (ite_no (no _ (by omega)) (ite_no (no _ (by omega)) (ite_no (no _ (by omega)) (ite_no (no _ (by omega)) (ite_yes (yes _ h) ?_))))))
    obtain ⟨hon, hnm, _, _, hl⟩ := form7 hvf (hk.trans h)
    obtain ⟨p, rfl⟩ : ∃ p, parts = [p] := by
     match parts, hl with
     | [p], _ => exact ⟨p, rfl⟩
    have e7 := text7 (o := oA) (t := nA) (ns := names) (p := p) (hk.trans h)
    have hl0 := name_len hon
    have hl1 := upper_len hnm
    have hl2 := hpart p (by simp)
    have hl3 := hsz2 p (by simp)
    refine drew_ok fun w3 F3 _ => ?_
    have B3 := B2.fr F3 (fun h => h)
    refine B3.ld (c := .str) (x := o) (o := 2) rfl ?_
    rw [eo']
    refine catB_ok (a := oA) (b := [47]) (by simp only [List.length_cons, List.length_nil]; omega) ?_
    refine B3.ld (c := .str) (x := n) (o := 3) rfl ?_
    rw [en']
    refine catB_ok (a := oA ++ [47]) (b := nA) (by simp only [List.length_append, List.length_cons, List.length_nil]; omega) ?_
    refine catB_ok (a := oA ++ [47] ++ nA) (b := [40]) (by simp only [List.length_append, List.length_cons, List.length_nil]; omega) ?_
    refine own_get (i := 0) (own_fr0 hown F3) (get rfl) ?_
    refine catB_ok (a := oA ++ [47] ++ nA ++ [40]) (b := vtext p) (by simp only [List.length_append, List.length_cons, List.length_nil]; omega) ?_
    refine catB_ok (a := oA ++ [47] ++ nA ++ [40] ++ vtext p) (b := [41]) (by simp only [List.length_append, List.length_cons, List.length_nil]; omega) ⟨?_, H2.tr F3⟩
    rw [e7]
    simp
   ·refine ite_no (no _ (by omega)) (ite_no (no _ (by omega)) (ite_no (no _ (by omega)) (ite_no (no _ (by omega)) (ite_no (no _ (by omega)) (ite_no (no _ (by omega)) (ite_no (no _ (by omega)) ?_))))))
    refine B2.ld (c := .int .i64) (x := z) (o := 1) rfl (callS_ok (FmtInt_ok (hg.frV H2) hz) fun w3 F3 => ?_)
    have hil := itoa_len hz.1 hz.2
    refine catB_ok (a := [102, 117, 110, 47]) (b := Lib.itoa z) (by simp only [List.length_cons, List.length_nil]; omega) ⟨?_, H2.tr F3⟩
    rw [text8 (hk.trans h), hzz]
    rfl
end Go.Proofs.YtngfnokbdcjoeaaGreatDoor
end
section
namespace Go.Lift
open Go.MapKept
def MapT (w : World) (r : Nat) (L : List (List UInt8 × Int)) : Prop := ∃ (es : Array MapEntry) (clock : Nat), w.heap[r]? = some (.map es clock) ∧ es.toList.map (fun e => (e.key, e.val)) = L.map fun x => (Value.string (bs x.1), Value.int .i64 x.2)
theorem MapT.lt {w : World} {r : Nat} {L : List (List UInt8 × Int)} (h : MapT w r L) : r < w.heap.size := by
 obtain ⟨es, clock, h, _⟩ := h
 exact (Array.getElem?_eq_some_iff.1 h).1
theorem MapT.fr {S : Nat → Prop} {w w' : World} {r : Nat} {L : List (List UInt8 × Int)} (h : MapT w r L) (F : Fr S w w') (hr : ¬ S r) : MapT w' r L := by
 have hl := h.lt
 obtain ⟨es, clock, h, e⟩ := h
 exact ⟨es, clock, (F.blk r hl hr).trans h, e⟩
theorem MapT.keys {es : Array MapEntry} {L : List (List UInt8 × Int)} (e : es.toList.map (fun e => (e.key, e.val)) = L.map fun x => (Value.string (bs x.1), Value.int .i64 x.2)) : ∀ x ∈ es.toList, IsKey .string x.key := by
 intro x hx
 have : (x.key, x.val) ∈ es.toList.map (fun e => (e.key, e.val)) := List.mem_map.2 ⟨x, hx, rfl⟩
 rw [e] at this
 obtain ⟨y, _, hy⟩ := List.mem_map.1 this
 have := congrArg Prod.fst hy
 change Value.string _ = x.key at this
 rw [← this]
 trivial
section
variable {P : Program} {R : Ending → World → Prop} {w : World} {t kt et : TypeId}
theorem run_mapUpd {r : Nat} {es : Array MapEntry} {clock : Nat} {s : ByteArray} {v : Value} (ht : P.underlying t = some (.map kt et)) (hk : P.underlying kt = some .string) (hb : w.heap[r]? = some (.map es clock)) (hf : Instr.findNow .string (.string s) es.toList 0 = some none) :
  (Instr.mapUpdate t (.map (some r)) (.string s) v).run P w = .ok () { w with heap := w.heap.setIfInBounds r (.map (es.push { key := .string s, val := v, born := clock }) (clock + 1)) } := by
 unfold Instr.mapUpdate
 simp only [Sem.run_bind, run_u ht, Result.andThen_ok, Go.MapKept.run_getObj_map hb, run_checkKey hk (k := .string s) trivial, run_findKey hk hf, Go.MapKept.run_setObj_map _ hb]
theorem mapT_put {r : Nat} {L : List (List UInt8 × Int)} {x : List UInt8} {i : Int} {k : G} (ht : P.underlying t = some (.map kt et)) (hk : P.underlying kt = some .string) (h : MapT w r L) (hx : ∀ y ∈ L, y.1 ≠ x)
  (hc : ∀ w', MapT w' r (L ++ [(x, i)]) → Fr (oneB r) w w' → w'.heap.size = w.heap.size → k R w') : opUG P (Instr.mapUpdate t (.map (some r)) (.string (bs x)) (.int .i64 i)) k R w := by
 obtain ⟨es, clock, hb, e⟩ := h
 have hf : Instr.findNow .string (.string (bs x)) es.toList 0 = some none := by
  rcases findNow_spec (d := .string) (k := .string (bs x)) trivial es.toList 0 (MapT.keys e) with ⟨h, _⟩ | ⟨j, y, _, hy, hk⟩
  ·exact h
  ·exfalso
   have : (y.key, y.val) ∈ es.toList.map (fun e => (e.key, e.val)) := List.mem_map.2 ⟨y, List.mem_of_getElem? hy, rfl⟩
   rw [e] at this
   obtain ⟨z, hz, hze⟩ := List.mem_map.1 this
   rw [hk] at hze
   simp only [Prod.mk.injEq, Value.string.injEq] at hze
   have h1 := congrArg bl hze.1
   rw [bl_bs, bl_bs] at h1
   exact hx z hz h1
 have hl := (Array.getElem?_eq_some_iff.1 hb).1
 refine ⟨_, run_mapUpd ht hk hb hf, hc _ ⟨_, _, (heap_set hb).1, ?_⟩ ⟨rfl, rfl, by simp, fun j hj hn => (heap_set hb).2 j hn⟩ (by simp)⟩
 rw [Array.toList_push, List.map_append, e, List.map_append]
 rfl
theorem run_lookT {r : Nat} {es : Array MapEntry} {clock : Nat} {s : ByteArray} {a : Option (Nat × Value)} {z : Value} (ht : P.underlying t = some (.map kt et)) (hk : P.underlying kt = some .string) (hz : ∀ w, (zeroValue et).run P w = .ok z w) (hb : w.heap[r]? = some (.map es clock)) (hf : Instr.findNow .string (.string s) es.toList 0 = some a) :
  (Instr.lookup t (.map (some r)) (.string s) true).run P w = .ok (match a with | some (_, v) => .tuple #[v, .bool true] | none => .tuple #[z, .bool false]) w := by
 unfold Instr.lookup
 simp only [Sem.run_bind, run_u ht, Result.andThen_ok, Go.MapKept.run_getObj_map hb, Sem.run_pure, run_checkKey hk (k := .string s) trivial, run_findKey hk hf]
 cases a with
 | none => simp [hz]
 | some a => simp
theorem mapT_get {r : Nat} {L : List (List UInt8 × Int)} {x : List UInt8} {k : Int → Bool → G} (ht : P.underlying t = some (.map kt et)) (hk : P.underlying kt = some .string) (hz : ∀ w, (zeroValue et).run P w = .ok (.int .i64 0) w) (h : MapT w r L)
  (h0 : (∀ y ∈ L, y.1 ≠ x) → k 0 false R w) (h1 : ∀ i, (x, i) ∈ L → k i true R w) : opVG P (Instr.lookup t (.map (some r)) (.string (bs x)) true) [.one (.int .i64), .one .bool] k R w := by
 obtain ⟨es, clock, hb, e⟩ := h
 rcases findNow_spec (d := .string) (k := .string (bs x)) trivial es.toList 0 (MapT.keys e) with ⟨hf, hno⟩ | ⟨j, y, hf, hy, hke⟩
 ·refine ⟨((0, ()), ((false, ()), ())), w, run_lookT ht hk hz hb hf, h0 fun z hz' he => ?_⟩
  have : (Value.string (bs z.1), Value.int .i64 z.2) ∈ es.toList.map (fun e => (e.key, e.val)) := by rw [e]; exact List.mem_map.2 ⟨z, hz', rfl⟩
  obtain ⟨q, hq, hqe⟩ := List.mem_map.1 this
  simp only [Prod.mk.injEq] at hqe
  exact hno q hq (by rw [hqe.1, he])
 ·have : (y.key, y.val) ∈ es.toList.map (fun e => (e.key, e.val)) := List.mem_map.2 ⟨y, List.mem_of_getElem? hy, rfl⟩
  rw [e] at this
  obtain ⟨z, hz', hze⟩ := List.mem_map.1 this
  simp only [Prod.mk.injEq] at hze
  obtain ⟨e1, e2⟩ := hze
  rw [hke] at e1
  simp only [Value.string.injEq] at e1
  have e3 := congrArg bl e1
  rw [bl_bs, bl_bs] at e3
  rw [← e2] at hf
  have hz2 : (x, z.2) ∈ L := by rw [← e3]; exact hz'
  exact ⟨((z.2, ()), ((true, ()), ())), w, run_lookT ht hk hz hb hf, h1 z.2 hz2⟩
theorem mapT_make {n : Int} {k : Option Nat → G} (ht : P.underlying t = some (.map kt et)) (hc : ∀ w' r, r = w.heap.size → MapT w' r [] → Fr noB w w' → k (some r) R w') : opG P (Instr.makeMap t (some (.int .i64 n))) (.one .map) k R w := by
 refine ⟨(some w.heap.size, ()), w.alloc (.map #[] 0), ?_, hc _ _ rfl ⟨#[], 0, heap_alloc_new w _, rfl⟩ (fr_alloc w _)⟩
 simp [Instr.makeMap, run_u ht, asInt, asIntOf]
 rfl
end
end Go.Lift
end
section
namespace Go.Lift
open Go.Shp
section
variable {R : Ending → World → Prop} {w : World}
end
end Go.Lift
namespace Go.Shp
open Go.Lex
end Go.Shp
namespace Go.Proofs.YtngfnokbdcjoeaaGreatDoor
open Go.Lift Go.Lex Go.Shp
end Go.Proofs.YtngfnokbdcjoeaaGreatDoor
end
