/- The law behind: one part of its proof (joined by program out of my own texts). No condition. -/
import Derived.Test.YtngfnokbdcjoeaaGreatDoorVatAM
import Derived.Lib.CountLaws
import Derived.Lib.Join
import Derived.Lib.ItoaNum
section
namespace Go.Lift
theorem str_ld {R : Ending → World → Prop} {w : World} {s : Sl} {l : List (List UInt8)} {i : Nat} {x : List UInt8} {K : ByteArray → G} (h : RdS w s (l.map bs)) (hx : l[i]? = some x) (hk : K (bs x) R w) : idxG s.a s.n (i : Int) 1 (fun (a : Addr) => ldG .str a K) R w := by
 have hi := (List.getElem?_eq_some_iff.1 hx).1
 obtain ⟨y, a, hy, ha, rd, hix⟩ := h.at (k := i) (by simpa using hi)
 rw [List.getElem?_map, hx] at hy
 cases hy
 rw [ha]
 exact hix (ld_ok (c := .str) (rd _ (Fr.refl _ _)) hk)
theorem countL_ok {body : (Int → G) → Int → G} {R : Ending → World → Prop} {w : World} (n : Nat) (hn : n ≤ 9223372036854775807) (I : Nat → World → Prop)
  (hbody : ∀ (rec : Int → G) (k : Nat) (w : World), k ≤ n → I k w → (k < n → ∀ w', I (k + 1) w' → rec (IntKind.wrap .i64 ((k : Int) + 1)) R w') → body rec (k : Int) R w)
  (h : I 0 w) : loopG [.one (.int .i64)] body (0 : Int) R w := by
 refine loop1_ok (c := .int .i64) (fun (i : Int) w' => ∃ k : Nat, i = (k : Int) ∧ k ≤ n ∧ I k w') (fun (i : Int) => n - i.toNat) ?_ ⟨0, rfl, Nat.zero_le _, h⟩
 rintro rec i w1 ⟨k, rfl, hk, hI⟩ hrec
 refine hbody rec k w1 hk hI fun hlt w' hI' => ?_
 have e : IntKind.wrap .i64 ((k : Int) + 1) = ((k + 1 : Nat) : Int) := by rw [wrap_ok (by omega) (by omega)]; omega
 rw [e]
 exact hrec _ _ ⟨k + 1, rfl, hlt, hI'⟩ (by simp only [Int.toNat_natCast]; omega)
end Go.Lift
namespace Go.Proofs.YtngfnokbdcjoeaaGreatDoor
open Go.Lift Go.Lex Go.Shp
section
variable {w : World}
theorem len0 {α : Type} (l : List α) : (((l.length : Nat) : Int) == 0) = l.isEmpty := by cases l <;> simp <;> omega
theorem emp_bl (s : ByteArray) : (ByteArray.toList s == ByteArray.toList (ByteArray.mk #[])) = (bl s).isEmpty := by
 rw [eq_bl, bl_empty]
 cases bl s <;> rfl
end
end Go.Proofs.YtngfnokbdcjoeaaGreatDoor
end
section
namespace Go.Shp
open Go.Lex
def vk (k z : Int) : Int := k * 18446744073709551616 + z
def kOf (q : Int) : Int := (q + 9223372036854775808) / 18446744073709551616
def zOf (q : Int) : Int := q - kOf q * 18446744073709551616
theorem kOf_vk {k z : Int} (h1 : -9223372036854775808 ≤ z) (h2 : z ≤ 9223372036854775807) : kOf (vk k z) = k := by
 unfold kOf vk
 omega
theorem zOf_vk {k z : Int} (h1 : -9223372036854775808 ≤ z) (h2 : z ≤ 9223372036854775807) : zOf (vk k z) = z := by
 unfold zOf
 rw [kOf_vk h1 h2]
 unfold vk
 omega
theorem vk_inj {k z k' z' : Int} (h1 : -9223372036854775808 ≤ z) (h2 : z ≤ 9223372036854775807) (h3 : -9223372036854775808 ≤ z') (h4 : z' ≤ 9223372036854775807) : vk k z = vk k' z' ↔ k = k' ∧ z = z' := by
 unfold vk
 omega
def vform : Shape → Bool
 | .mk q o t ns ps =>
  if kOf q = 1 then o.isEmpty && t.isEmpty && ns.isEmpty && ps.isEmpty
  else if kOf q = 2 then o.isEmpty && decide (zOf q = 0) && ns.isEmpty && ps.isEmpty
  else if kOf q = 3 then o.isEmpty && t.isEmpty && ns.isEmpty && ps.isEmpty && decide (zOf q = 0 ∨ zOf q = 1)
  else if kOf q = 4 then o.isEmpty && t.isEmpty && ns.isEmpty && decide (zOf q = 0)
  else if kOf q = 5 then o.isEmpty && t.isEmpty && decide (zOf q = 0) && namedOk ns ps.length
  else if kOf q = 6 then o.isEmpty && decide (zOf q = 0) && ns.isEmpty && isName t && decide (ps.length = 1)
  else if kOf q = 7 then isName o && isUpper t && decide (zOf q = 0) && ns.isEmpty && decide (ps.length = 1)
  else if kOf q = 8 then o.isEmpty && t.isEmpty && ns.isEmpty && ps.isEmpty && decide (0 ≤ zOf q ∧ zOf q ≤ 1000)
  else false
mutual
def formed : Shape → Bool
 | .mk q o t ns ps => vform (.mk q o t ns ps) && formeds ps
def formeds : List Shape → Bool
 | [] => true
 | s :: r => formed s && formeds r
end
def vcheck (s : Shape) : Nat := if 2000 < size s then 3 else if 40 < deep s then 91 else if formed s then 0 else 290
def vsame (a b : Shape) : Bool := vcheck a == 0 && vcheck b == 0 && eqS (sortS a) (sortS b)
def vlist (g : Shape → Shape → Bool) (sps ps : List Shape) : Bool := match sps with
 | p :: _ => ps.all (fun x => g x p)
 | [] => ps.isEmpty
def vcase (g : Shape → Shape → Bool) (sns : List B) (sps : List Shape) (t : B) (ps : List Shape) : Bool := match find sns sps t, ps with
 | some p, x :: _ => g x p
 | _, _ => false
def vfitsF : Nat → Shape → Shape → Bool
 | 0, _, _ => false
 | f + 1, .mk q o t ns ps, .mk k so sn sns sps =>
  if k = 4 then true
  else if kOf q = 1 then decide (k = 1)
  else if kOf q = 2 then decide (k = 3)
  else if kOf q = 3 then decide (k = 2)
  else if kOf q = 7 then decide (k = 10) && so == o && sn == t
  else if kOf q = 8 then decide (k = 8) && decide ((sps.length : Int) = zOf q + 1)
  else if kOf q = 4 then decide (k = 5) && vlist (vfitsF f) sps ps
  else if kOf q = 6 then decide (k = 7) && vcase (vfitsF f) sns sps t ps
  else decide (k = 6) && withinF (fun p x => vfitsF f x p) sns sps ns ps
def vfits (v s : Shape) : Bool := vfitsF (deep v) v s
def isFits (v s : Shape) : Bool := vcheck v == 0 && check s == 0 && vfits v s
theorem formeds_mem : ∀ {l : List Shape} {s : Shape}, formeds l = true → s ∈ l → formed s = true
 | x :: r, s, h, hs => by
  unfold formeds at h
  rw [Bool.and_eq_true] at h
  rcases List.mem_cons.1 hs with rfl | hs
  ·exact h.1
  ·exact formeds_mem h.2 hs
theorem formeds_of {l : List Shape} (h : ∀ s ∈ l, formed s = true) : formeds l = true := by
 induction l with
 | nil => rw [formeds]
 | cons s r ih =>
  rw [formeds, h s List.mem_cons_self, ih fun x hx => h x (List.mem_cons_of_mem _ hx)]
  rfl
theorem formed_parts {q : Int} {o t : B} {ns : List B} {ps : List Shape} (h : formed (.mk q o t ns ps) = true) : vform (.mk q o t ns ps) = true ∧ ∀ s ∈ ps, formed s = true := by
 unfold formed at h
 rw [Bool.and_eq_true] at h
 exact ⟨h.1, fun s hs => formeds_mem h.2 hs⟩
theorem vcheck_ok {s : Shape} : vcheck s = 0 ↔ size s ≤ 2000 ∧ deep s ≤ 40 ∧ formed s = true := by
 unfold vcheck
 by_cases h1 : 2000 < size s
 ·rw [if_pos h1]; simp; omega
 rw [if_neg h1]
 by_cases h2 : 40 < deep s
 ·rw [if_pos h2]; simp; omega
 rw [if_neg h2]
 cases h3 : formed s with
 | true => simp; omega
 | false => simp
theorem vform_names {q : Int} {o t : B} {ns : List B} {ps : List Shape} (h : vform (.mk q o t ns ps) = true) : (kOf q ≠ 5 → ns = []) ∧ (kOf q = 5 → ns.length = ps.length ∧ ns.Nodup) := by
 unfold vform at h
 simp only [] at h
 constructor
 ·intro h5
  rw [if_neg (c := kOf q = 5) h5] at h
  repeat' split at h
  all_goals try simp only [Bool.and_eq_true, List.isEmpty_iff] at h
  all_goals first | exact h.2 | exact h.1.2 | exact h.1.1.2 | exact h.1.1.1.2 | exact absurd h (by simp)
 ·intro h5
  rw [if_neg (by omega), if_neg (by omega), if_neg (by omega), if_neg (by omega), if_pos h5] at h
  unfold namedOk at h
  simp only [Bool.and_eq_true, decide_eq_true_eq] at h
  exact ⟨h.2.1.1, h.2.2⟩
theorem vform_len {q : Int} {o t : B} {ns : List B} {ps : List Shape} (h : vform (.mk q o t ns ps) = true) (hn : ns ≠ []) : ns.length = ps.length ∧ ns.Nodup := by
 by_cases h5 : kOf q = 5
 ·exact (vform_names h).2 h5
 ·exact absurd ((vform_names h).1 h5) hn
end Go.Shp
end
section
namespace Go.Lift
open Go.Shp
def okN (z : Int) : Prop := -9223372036854775808 ≤ z ∧ z ≤ 9223372036854775807
mutual
def VaV (w : World) (k z : Int) (o n : ByteArray) (ns ps : Sl) : Shape → Prop
 | .mk q o' n' names parts => q = vk k z ∧ bl o = o' ∧ bl n = n' ∧ (okN z ∧ RdS w ns (names.map bs) ∧ names.length * 16 ≤ 140737488351232 ∧ ps.n = parts.length ∧ parts.length < 4611686018427387904 ∧ o.size < 4611686018427387904 ∧ n.size < 4611686018427387904 ∧ ∀ x ∈ names, x.length < 4611686018427387904) ∧ VaL w ps.a 0 parts
def VaL (w : World) (a : Option Addr) (i : Nat) : List Shape → Prop
 | [] => True
 | s :: r => (∃ (g off : Nat) (k z : Int) (o n : ByteArray) (ns ps : Sl), a = some ⟨g, off, none⟩ ∧ w.cell? ⟨g, off + i * 6, none⟩ = some (.int .i64 k) ∧ w.cell? ⟨g, off + i * 6 + 1, none⟩ = some (.int .i64 z) ∧ w.cell? ⟨g, off + i * 6 + 2, none⟩ = some (.string o) ∧ w.cell? ⟨g, off + i * 6 + 3, none⟩ = some (.string n) ∧
   w.cell? ⟨g, off + i * 6 + 4, none⟩ = some (.slice ns.a ns.n ns.c) ∧ w.cell? ⟨g, off + i * 6 + 5, none⟩ = some (.slice ps.a ps.n ps.c) ∧ VaV w k z o n ns ps s) ∧ VaL w a (i + 1) r
end
mutual
theorem VaV.fr {w w' : World} (F : Fr noB w w') : ∀ {s : Shape} {k z : Int} {o n : ByteArray} {ns ps : Sl}, VaV w k z o n ns ps s → VaV w' k z o n ns ps s
 | .mk _ _ _ _ _, _, _, _, _, _, _, h => by
  unfold VaV at h ⊢
  exact ⟨h.1, h.2.1, h.2.2.1, ⟨h.2.2.2.1.1, h.2.2.2.1.2.1.fr F, h.2.2.2.1.2.2⟩, VaL.fr F h.2.2.2.2⟩
theorem VaL.fr {w w' : World} (F : Fr noB w w') : ∀ {l : List Shape} {a : Option Addr} {i : Nat}, VaL w a i l → VaL w' a i l
 | [], _, _, _ => by unfold VaL; trivial
 | s :: r, _, _, h => by
  unfold VaL at h ⊢
  obtain ⟨⟨g, off, k, z, o, n, ns, ps, h0, h1, h2, h3, h4, h5, h6, h7⟩, hr⟩ := h
  exact ⟨⟨g, off, k, z, o, n, ns, ps, h0, F.cell h1 (fun h => h), F.cell h2 (fun h => h), F.cell h3 (fun h => h), F.cell h4 (fun h => h), F.cell h5 (fun h => h), F.cell h6 (fun h => h), VaV.fr F h7⟩, VaL.fr F hr⟩
end
theorem VaL.at {w : World} {a : Option Addr} : ∀ {l : List Shape} {i j : Nat} {s : Shape}, VaL w a i l → l[j]? = some s → ∃ (g off : Nat) (k z : Int) (o n : ByteArray) (ns ps : Sl), a = some ⟨g, off, none⟩ ∧ w.cell? ⟨g, off + (i + j) * 6, none⟩ = some (.int .i64 k) ∧ w.cell? ⟨g, off + (i + j) * 6 + 1, none⟩ = some (.int .i64 z) ∧ w.cell? ⟨g, off + (i + j) * 6 + 2, none⟩ = some (.string o) ∧ w.cell? ⟨g, off + (i + j) * 6 + 3, none⟩ = some (.string n) ∧
   w.cell? ⟨g, off + (i + j) * 6 + 4, none⟩ = some (.slice ns.a ns.n ns.c) ∧ w.cell? ⟨g, off + (i + j) * 6 + 5, none⟩ = some (.slice ps.a ps.n ps.c) ∧ VaV w k z o n ns ps s
 | [], _, _, _, _, hj => by simp at hj
 | x :: r, i, 0, s, h, hj => by
  unfold VaL at h
  simp only [List.getElem?_cons_zero, Option.some.injEq] at hj
  subst hj
  exact h.1
 | x :: r, i, j + 1, s, h, hj => by
  unfold VaL at h
  have := VaL.at h.2 (by simpa using hj)
  rw [show i + (j + 1) = i + 1 + j by omega]
  exact this
def vaCells (k z : Int) (o n : ByteArray) (ns ps : Sl) : List Value := [.int .i64 k, .int .i64 z, .string o, .string n, .slice ns.a ns.n ns.c, .slice ps.a ps.n ps.c]
@[reducible] def vaArg (k z : Int) (o n : ByteArray) (ns ps : Sl) : Value := .agg #[.int .i64 k, .int .i64 z, .string o, .string n, .slice ns.a ns.n ns.c, .slice ps.a ps.n ps.c]
section
variable {R : Ending → World → Prop} {w : World}
theorem vpart_ld {l : List Shape} {a : Option Addr} {len i : Nat} {s : Shape} {K : Int → Int → ByteArray → ByteArray → Sl → Sl → G} (h : VaL w a 0 l) (hs : l[i]? = some s) (hl : len = l.length)
  (hk : ∀ k z o n ns ps, VaV w k z o n ns ps s → K k z o n ns ps R w) :
  idxG a len (i : Int) 6 (fun (x : Addr) => ldG (.int .i64) (x.add 0) (fun (k : Int) => ldG (.int .i64) (x.add 1) (fun (z : Int) => ldG .str (x.add 2) (fun (o : ByteArray) => ldG .str (x.add 3) (fun (n : ByteArray) => ldG .slice (x.add 4) (fun (ns : Sl) => ldG .slice (x.add 5) (fun (ps : Sl) => K k z o n ns ps))))))) R w := by
 obtain ⟨g, off, k, z, o, n, ns, ps, rfl, c0, c1, c2, c3, c4, c5, hv⟩ := h.at hs
 have hi := (List.getElem?_eq_some_iff.1 hs).1
 rw [Nat.zero_add] at c0 c1 c2 c3 c4 c5
 refine idxB_ok (n := len) (i := i) (by omega) ?_
 simp only [Addr.add_lit, Nat.add_zero]
 exact ld_ok (c := .int .i64) c0 (ld_ok (c := .int .i64) c1 (ld_ok (c := .str) c2 (ld_ok (c := .str) c3 (ld_ok (c := .slice) (x := ns) c4 (ld_ok (c := .slice) (x := ps) c5 (hk k z o n ns ps hv))))))
theorem VaV.parts {k z : Int} {o n : ByteArray} {ns ps : Sl} {s : Shape} (h : VaV w k z o n ns ps s) : s.kind = vk k z ∧ bl o = s.of ∧ bl n = s.name ∧ (okN z ∧ RdS w ns (s.names.map bs) ∧ s.names.length * 16 ≤ 140737488351232 ∧ ps.n = s.parts.length ∧ s.parts.length < 4611686018427387904 ∧ o.size < 4611686018427387904 ∧ n.size < 4611686018427387904 ∧ ∀ x ∈ s.names, x.length < 4611686018427387904) ∧ VaL w ps.a 0 s.parts := by
 cases s
 unfold VaV at h
 exact h
end
end Go.Lift
end
section
namespace Go.Shp
open Go.Lex
theorem all_congr {α : Type} {f g : α → Bool} : ∀ {l : List α}, (∀ x ∈ l, f x = g x) → l.all f = l.all g
 | [], _ => rfl
 | x :: r, h => by
  rw [List.all_cons, List.all_cons, h x List.mem_cons_self, all_congr fun y hy => h y (List.mem_cons_of_mem _ hy)]
theorem vfitsF_fuel : ∀ (f g : Nat) (v s : Shape), deep v ≤ f → deep v ≤ g → vfitsF f v s = vfitsF g v s
 | 0, _, v, _, h, _ => by have := deep_pos v; omega
 | _, 0, v, _, _, h => by have := deep_pos v; omega
 | f + 1, g + 1, .mk q o t ns ps, .mk k so sn sns sps, h1, h2 => by
  rw [deep_mk] at h1 h2
  have key : ∀ x ∈ ps, ∀ p, vfitsF f x p = vfitsF g x p := fun x hx p => by
   have := deep_mem hx
   exact vfitsF_fuel f g x p (by omega) (by omega)
  unfold vfitsF
  rw [withinF_congr (f := fun p x => vfitsF f x p) (g := fun p x => vfitsF g x p) fun p _ x hx => key x hx p]
  have e1 : vlist (vfitsF f) sps ps = vlist (vfitsF g) sps ps := by
   cases sps with
   | nil => rfl
   | cons p r => exact all_congr fun x hx => key x hx p
  have e2 : vcase (vfitsF f) sns sps t ps = vcase (vfitsF g) sns sps t ps := by
   unfold vcase
   cases find sns sps t with
   | none => rfl
   | some p =>
    cases ps with
    | nil => rfl
    | cons x r => exact key x List.mem_cons_self p
  rw [e1, e2]
theorem vfitsF_vfits {f : Nat} {v s : Shape} (h : deep v ≤ f) : vfitsF f v s = vfits v s := vfitsF_fuel _ _ _ _ h (Nat.le_refl _)
theorem pairs_snd {ns : List B} {ps : List Shape} (h : ns.length = ps.length) : ((pairs ns ps).map (·.2)).Perm (ps.map sortS) := by
 have := (sortP_perm (ns.zip (ps.map sortS))).map (·.2)
 have e : (ns.zip (ps.map sortS)).map (·.2) = ps.map sortS := List.map_snd_zip (by rw [List.length_map, h]; exact Nat.le_refl _)
 rw [e] at this
 exact this
theorem formed_sort : ∀ (d : Nat) {v : Shape}, deep v ≤ d → formed v = true → formed (sortS v) = true
 | 0, v, h, _ => by have := deep_pos v; omega
 | d + 1, .mk q o t ns ps, h, hf => by
  rw [deep_mk] at h
  obtain ⟨h1, h2⟩ := formed_parts hf
  have ih : ∀ p ∈ ps, formed (sortS p) = true := fun p hp => formed_sort d (by have := deep_mem hp; omega) (h2 p hp)
  have hm : formeds (ps.map sortS) = true := formeds_of fun s hs => by
   obtain ⟨p, hp, rfl⟩ := List.mem_map.1 hs
   exact ih p hp
  by_cases hn : ns = []
  ·subst hn
   rw [sortS_nil, formed, hm, Bool.and_true]
   unfold vform at h1 ⊢
   simpa using h1
  ·obtain ⟨hl, hnd⟩ := vform_len h1 hn
   have h5 : kOf q = 5 := Decidable.byContradiction fun h => hn ((vform_names h1).1 h)
   have hpn := pairs_names (ns := ns) (ps := ps) hl
   rw [sortS_cons hn, formed, formeds_of (l := (pairs ns ps).map (·.2)) fun s hs => formeds_mem hm ((pairs_snd hl).mem_iff.1 hs), Bool.and_true]
   unfold vform at h1 ⊢
   simp only [] at h1 ⊢
   rw [if_neg (by omega), if_neg (by omega), if_neg (by omega), if_neg (by omega), if_pos h5] at h1 ⊢
   unfold namedOk at h1 ⊢
   simp only [Bool.and_eq_true, decide_eq_true_eq, List.length_map] at h1 ⊢
   refine ⟨h1.1, ⟨trivial, ?_⟩, hpn.nodup_iff.2 hnd⟩
   rw [List.all_eq_true] at h1 ⊢
   exact fun x hx => h1.2.1.2 x (hpn.mem_iff.1 hx)
mutual
theorem eqS_refl : ∀ a : Shape, eqS a a = true
 | .mk k o n ns ps => by
  unfold eqS
  rw [eqL_refl ps]
  simp
theorem eqL_refl : ∀ l : List Shape, eqL l l = true
 | [] => by rw [eqL]
 | a :: r => by
  unfold eqL
  rw [eqS_refl a, eqL_refl r]
  rfl
end
end Go.Shp
end
section
namespace Go.Lex
def kset : List UInt8 := [92, 34, 9, 10]
def isKey (c : UInt8) : Bool := kset.contains c
theorem quoteB_plain {c : UInt8} (h : isKey c = false) : quoteB c = [c] := by
 unfold isKey kset at h
 simp only [List.contains_cons, List.contains_nil, Bool.or_false, Bool.or_eq_false_iff, beq_eq_false_iff_ne] at h
 unfold quoteB
 rw [if_neg h.2.2.2, if_neg h.2.2.1, if_neg h.2.1, if_neg h.1]
theorem quoteB_key {c : UInt8} (h : isKey c = true) : (quoteB c).length = 2 := by
 unfold isKey kset at h
 simp only [List.contains_cons, List.contains_nil, Bool.or_false, Bool.or_eq_true, beq_iff_eq] at h
 rcases h with rfl | rfl | rfl | rfl <;> rfl
theorem quote_len : ∀ s : B, (s.flatMap quoteB).length = s.length + s.countP isKey
 | [] => rfl
 | c :: r => by
  have ih := quote_len r
  rw [List.flatMap_cons, List.length_append, ih, List.countP_cons, List.length_cons]
  cases h : isKey c with
  | true => rw [quoteB_key h]; simp; omega
  | false => rw [quoteB_plain h]; simp; omega
theorem quote_none : ∀ {s : B}, s.any isKey = false → s.flatMap quoteB = s
 | [], _ => rfl
 | c :: r, h => by
  simp only [List.any_cons, Bool.or_eq_false_iff] at h
  rw [List.flatMap_cons, quoteB_plain h.1, quote_none h.2]
  rfl
def sumK (s : B) (k : Nat) : Nat := ((kset.take k).map fun c => s.count c).sum
theorem sumK_all : ∀ s : B, sumK s 4 = s.countP isKey
 | [] => rfl
 | c :: r => by
  have ih := sumK_all r
  unfold sumK kset at *
  simp only [List.take_succ_cons, List.take_zero, List.map_cons, List.map_nil, List.sum_cons, List.sum_nil, List.count_cons, List.countP_cons] at *
  by_cases h1 : c = 92
  ·subst h1; rw [show isKey 92 = true from rfl]; simp; omega
  by_cases h2 : c = 34
  ·subst h2; rw [show isKey 34 = true from rfl]; simp; omega
  by_cases h3 : c = 9
  ·subst h3; rw [show isKey 9 = true from rfl]; simp; omega
  by_cases h4 : c = 10
  ·subst h4; rw [show isKey 10 = true from rfl]; simp; omega
  have h : isKey c = false := by unfold isKey kset; simp [h1, h2, h3, h4]
  rw [h]
  simp [h1, h2, h3, h4]
  omega
theorem sumK_le (s : B) (k : Nat) : sumK s k ≤ 4 * s.length := by
 have h : ∀ l : List UInt8, (l.map fun c => s.count c).sum ≤ l.length * s.length := fun l => by
  induction l with
  | nil => simp
  | cons c l ih =>
   have : s.count c ≤ s.length := List.count_le_length
   simp only [List.map_cons, List.sum_cons, List.length_cons, Nat.add_mul, Nat.one_mul]
   omega
 refine Nat.le_trans (h _) (Nat.mul_le_mul_right _ ?_)
 rw [List.length_take]
 exact Nat.min_le_right _ _
theorem anyK_all (s : B) : (kset.take 4).any (fun c => decide (s.count c ≠ 0)) = s.any isKey := by
 rw [Bool.eq_iff_iff, List.any_eq_true, List.any_eq_true]
 constructor
 ·rintro ⟨c, hc, h⟩
  have h := of_decide_eq_true h
  exact ⟨c, List.count_pos_iff.1 (by omega), List.contains_iff_mem.2 hc⟩
 ·rintro ⟨c, hc, h⟩
  exact ⟨c, List.contains_iff_mem.1 h, decide_eq_true (by have := List.count_pos_iff.2 hc; omega)⟩
end Go.Lex
end
section
namespace Go.Lex
def show1 (k : Int) (t : B) : Option B := match scan (written k t) with
 | .ok [a, _] => if (a.kind : Int) = k ∧ a.text = t ∧ a.at' = 0 ∧ written k t ≠ [] ∧ (k ≠ 4 → a.text = written k t) then some (written k t) else none
 | _ => none
def showF : List B → List (Int × B) → Option (List B)
 | outs, [] => some outs
 | outs, (k, t) :: r => if k = 0 ∧ t = [] then showF outs r else match show1 k t with
  | some s => showF (outs ++ [s]) r
  | none => none
theorem show1_two {k : Int} {t : B} {a z : Tok} (h : scan (written k t) = .ok [a, z]) : show1 k t = if (a.kind : Int) = k ∧ a.text = t ∧ a.at' = 0 ∧ written k t ≠ [] ∧ (k ≠ 4 → a.text = written k t) then some (written k t) else none := by
 unfold show1
 rw [h]
theorem show1_not {k : Int} {t : B} {l : List Tok} (h : scan (written k t) = .ok l) (hl : l.length ≠ 2) : show1 k t = none := by
 unfold show1
 rw [h]
 match l, hl with
 | [], _ => rfl
 | [_], _ => rfl
 | [_, _], h => exact absurd rfl h
 | _ :: _ :: _ :: _, _ => rfl
theorem quotedF_err : ∀ (f i : Nat) (s out : B) (e : Fault), quotedF f i s out = .error e → e.err ≠ 0
 | 0, i, s, out, e, h => by simp only [quotedF, Except.error.injEq] at h; subst h; decide
 | f + 1, i, [], out, e, h => by simp only [quotedF, Except.error.injEq] at h; subst h; decide
 | f + 1, i, c :: r, out, e, h => by
  unfold quotedF at h
  split at h
  ·cases h
  split at h
  ·cases h; decide
  split at h
  ·cases r with
   | nil => cases h; decide
   | cons x r' =>
    simp only [] at h
    cases he : esc x with
    | none => rw [he] at h; cases h; decide
    | some b => rw [he] at h; exact quotedF_err f _ _ _ _ h
  ·cases hu : utfLen (c :: r) with
   | zero => rw [hu] at h; cases h; show 30 ≠ 0; decide
   | succ k => rw [hu] at h; exact quotedF_err f _ _ _ _ h
theorem first_err {s : B} {e : Fault} (h : first s = .error e) : e.err ≠ 0 := by
 cases s with
 | nil => cases h; decide
 | cons c r =>
  unfold first at h
  simp only [] at h
  split at h
  ·repeat' split at h
   all_goals first | (cases h; done) | (cases h; decide)
  split at h
  ·repeat' split at h
   all_goals first | (cases h; done) | (cases h; decide)
  split at h
  ·split at h
   ·cases h
   ·rename_i e' hq
    cases h
    exact quotedF_err _ _ _ _ _ hq
  repeat' split at h
  all_goals first | (cases h; done) | (cases h; decide)
theorem scanF_err : ∀ (f i : Nat) (s : B) (acc : List Tok) (e : Fault), s.length < f → scanF f i s acc = .error e → e.err ≠ 0
 | 0, _, _, _, _, h, _ => by omega
 | f + 1, i, [], acc, e, _, h => by simp [scanF] at h
 | f + 1, i, c :: r, acc, e, hf, h => by
  simp only [List.length_cons] at hf
  unfold scanF at h
  split at h
  ·exact scanF_err f _ _ _ _ (by omega) h
  split at h
  ·rename_i hc
   have h1 : 1 ≤ ((c :: r).takeWhile (· != 10)).length := by rw [hc.1]; exact comment_pos r
   simp only [] at h
   cases hu : utfBad ((c :: r).takeWhile (· != 10)) with
   | some k => rw [hu] at h; cases h; show 30 ≠ 0; decide
   | none => rw [hu] at h; exact scanF_err f _ _ _ _ (by rw [List.length_drop, List.length_cons]; omega) h
  ·cases hfst : first (c :: r) with
   | error e' => rw [hfst] at h; cases h; show e'.err ≠ 0; exact first_err hfst
   | ok x =>
    obtain ⟨k, t, n⟩ := x
    have := first_pos hfst
    rw [hfst] at h
    exact scanF_err f _ _ _ _ (by rw [List.length_drop, List.length_cons]; omega) h
theorem scan_err {s : B} {e : Fault} (h : scan s = .error e) : e.err ≠ 0 := by
 unfold scan at h
 split at h
 ·cases h; decide
 ·exact scanF_err _ _ _ _ _ (Nat.lt_succ_self _) h
theorem lens_le (M : Nat) : ∀ {xs : List B}, (∀ o ∈ xs, o.length ≤ M) → Lib.lens xs ≤ xs.length * M
 | [], _ => by simp [Lib.lens]
 | x :: r, h => by
  have ih := lens_le M (xs := r) fun o ho => h o (List.mem_cons_of_mem _ ho)
  have := h x List.mem_cons_self
  simp only [Lib.lens, List.map_cons, List.sum_cons, List.length_cons, Nat.add_mul, Nat.one_mul] at *
  omega
theorem join_le {xs : List B} (hn : xs.length ≤ 4000) (h : ∀ o ∈ xs, o.length ≤ 40002) : (Lib.join xs [32]).length ≤ 170000000 := by
 cases xs with
 | nil => simp [Lib.join_nil]
 | cons x r =>
  rw [Lib.join_cons, List.length_append, Lib.joinTail_length]
  have h1 := h x List.mem_cons_self
  have h2 := lens_le 40002 (xs := r) fun o ho => h o (List.mem_cons_of_mem _ ho)
  simp only [List.length_cons, List.length_nil, Nat.zero_add, Nat.one_mul] at *
  have h3 : r.length * 40002 ≤ 4000 * 40002 := Nat.mul_le_mul_right _ (by omega)
  omega
theorem written_len (k : Int) (t : B) : (written k t).length ≤ 2 * t.length + 2 := by
 unfold written quote
 split
 ·have := quote_len t
  have h2 : t.countP isKey ≤ t.length := List.countP_le_length
  simp only [List.length_append, List.length_cons, List.length_nil]
  omega
 ·omega
end Go.Lex
end
section
namespace Go.Shp
open Go.Lex
mutual
def vtext : Shape → B
 | .mk q o t ns ps =>
  if kOf q = 1 then Lib.itoa (zOf q)
  else if kOf q = 2 then quote t
  else if kOf q = 3 then (if zOf q = 1 then [116, 114, 117, 101] else [102, 97, 108, 115, 101])
  else if kOf q = 4 then 91 :: (Lib.join (vtexts ps) [44, 32] ++ [93])
  else if kOf q = 5 then 123 :: (Lib.join (List.zipWith (fun n s => n ++ [32, 61, 32] ++ s) ns (vtexts ps)) [44, 32] ++ [125])
  else if kOf q = 6 then 64 :: (t ++ 40 :: ((vtexts ps).headD [] ++ [41]))
  else if kOf q = 7 then o ++ 47 :: (t ++ 40 :: ((vtexts ps).headD [] ++ [41]))
  else [102, 117, 110, 47] ++ Lib.itoa (zOf q)
def vtexts : List Shape → List B
 | [] => []
 | s :: r => vtext s :: vtexts r
end
theorem vtexts_map : ∀ l : List Shape, vtexts l = l.map vtext
 | [] => by rw [vtexts]; rfl
 | s :: r => by rw [vtexts, vtexts_map r]; rfl
mutual
def vquot : Shape → Bool
 | .mk q _ t _ ps => (decide (kOf q ≠ 2) || (show1 4 t).isSome) && vquots ps
def vquots : List Shape → Bool
 | [] => true
 | s :: r => vquot s && vquots r
end
def vshow (v : Shape) : Nat × B := if vcheck v ≠ 0 then (vcheck v, []) else if vquot v then (0, vtext v) else (290, [])
theorem run_inj {p : UInt8 → Bool} : ∀ {l1 l2 r1 r2 : B}, l1.all p = true → l2.all p = true → (∀ c r, r1 = c :: r → p c = false) → (∀ c r, r2 = c :: r → p c = false) → l1 ++ r1 = l2 ++ r2 → l1 = l2 ∧ r1 = r2
 | [], [], _, _, _, _, _, _, h => ⟨rfl, h⟩
 | [], c :: l2, r1, r2, _, h2, h3, _, h => by
  have := h3 c (l2 ++ r2) h
  rw [List.all_cons, Bool.and_eq_true, this] at h2
  cases h2.1
 | c :: l1, [], r1, r2, h1, _, _, h4, h => by
  have := h4 c (l1 ++ r1) h.symm
  rw [List.all_cons, Bool.and_eq_true, this] at h1
  cases h1.1
 | c :: l1, d :: l2, r1, r2, h1, h2, h3, h4, h => by
  rw [List.cons_append, List.cons_append, List.cons.injEq] at h
  rw [List.all_cons, Bool.and_eq_true] at h1 h2
  obtain ⟨rfl, h⟩ := h
  obtain ⟨rfl, e⟩ := run_inj h1.2 h2.2 h3 h4 h
  exact ⟨rfl, e⟩
def Stop (x : B) : Prop := ∀ c r, x = c :: r → c = 44 ∨ c = 93 ∨ c = 125 ∨ c = 41
theorem stop_nil : Stop [] := fun c r h => by cases h
theorem stop_cons {c : UInt8} {r : B} (h : c = 44 ∨ c = 93 ∨ c = 125 ∨ c = 41) : Stop (c :: r) := fun d s e => by cases e; exact h
def isNum (c : UInt8) : Bool := digit c || c == 45
theorem stop_num {x : B} (h : Stop x) : ∀ c r, x = c :: r → isNum c = false := fun c r e => by rcases h c r e with rfl | rfl | rfl | rfl <;> decide
theorem stop_rest {x : B} (h : Stop x) : ∀ c r, x = c :: r → rest c = false := fun c r e => by rcases h c r e with rfl | rfl | rfl | rfl <;> decide
theorem dig_num {n : Nat} (h : n < 10) : digit (UInt8.ofNat (48 + n)) = true ∧ (UInt8.ofNat (48 + n)).toNat = 48 + n := by
 have e : (UInt8.ofNat (48 + n)).toNat = 48 + n := by
  rw [UInt8.toNat_ofNat']
  omega
 refine ⟨?_, e⟩
 unfold digit
 rw [e]
 exact decide_eq_true (by omega)
theorem dec_small {u : Nat} (h : u < 10) : Lib.decDigits u = [UInt8.ofNat (48 + u)] := by rw [Lib.decDigits, dif_pos h]
theorem dec_big {u : Nat} (h : ¬ u < 10) : Lib.decDigits u = Lib.decDigits (u / 10) ++ [UInt8.ofNat (48 + u % 10)] := by
 conv => lhs; rw [Lib.decDigits]
 rw [dif_neg h]
theorem dec_num (u : Nat) : (Lib.decDigits u).all digit = true := by
 induction u using Nat.strongRecOn with
 | _ u ih =>
  rw [Lib.decDigits]
  split
  ·rename_i h
   simp only [List.all_cons, List.all_nil, Bool.and_true]
   exact (dig_num h).1
  ·rename_i h
   rw [List.all_append, ih (u / 10) (by omega)]
   simp only [List.all_cons, List.all_nil, Bool.and_true, Bool.true_and]
   exact (dig_num (Nat.mod_lt _ (by omega))).1
theorem dec_inj : ∀ (u v : Nat), Lib.decDigits u = Lib.decDigits v → u = v := by
 intro u
 induction u using Nat.strongRecOn with
 | _ u ih =>
  intro v h
  have hu := Lib.decDigits_length u
  have hv := Lib.decDigits_length v
  rw [h, hv] at hu
  by_cases h1 : u < 10
  ·by_cases h2 : v < 10
   ·rw [dec_small h1, dec_small h2] at h
    have h := congrArg UInt8.toNat (List.cons.inj h).1
    rw [(dig_num h1).2, (dig_num h2).2] at h
    omega
   ·rw [Lib.nDigits_small h1, Lib.nDigits_big h2] at hu
    have := Lib.decDigits_length (v / 10)
    have h0 : 1 ≤ Lib.nDigits (v / 10) := by rw [Lib.nDigits]; split <;> omega
    omega
  ·by_cases h2 : v < 10
   ·rw [Lib.nDigits_small h2, Lib.nDigits_big h1] at hu
    have h0 : 1 ≤ Lib.nDigits (u / 10) := by rw [Lib.nDigits]; split <;> omega
    omega
   ·rw [dec_big h1, dec_big h2] at h
    obtain ⟨e1, e2⟩ := List.append_inj' h rfl
    have e1 := ih (u / 10) (by omega) (v / 10) e1
    have e2 := congrArg UInt8.toNat (List.cons.inj e2).1
    rw [(dig_num (Nat.mod_lt _ (by omega))).2, (dig_num (Nat.mod_lt _ (by omega))).2] at e2
    omega
theorem itoa_num (n : Int) : (Lib.itoa n).all isNum = true := by
 have h : ∀ u, (Lib.decDigits u).all isNum = true := fun u => by
  have := dec_num u
  rw [List.all_eq_true] at this ⊢
  intro c hc
  unfold isNum
  rw [this c hc]
  rfl
 unfold Lib.itoa
 split
 ·rw [List.all_cons, h]
  rfl
 ·exact h _
theorem dec_ne (u : Nat) : Lib.decDigits u ≠ [] := by
 rw [Lib.decDigits]
 split
 ·simp
 ·simp
theorem itoa_inj {n m : Int} (h : Lib.itoa n = Lib.itoa m) : n = m := by
 have no : ∀ (u : Nat) (l : B), Lib.decDigits u ≠ 45 :: l := fun u l e => by
  have := dec_num u
  rw [e, List.all_cons, Bool.and_eq_true] at this
  exact absurd this.1 (by decide)
 unfold Lib.itoa at h
 by_cases h1 : n < 0
 ·by_cases h2 : m < 0
  ·rw [if_pos h1, if_pos h2] at h
   have := dec_inj _ _ (List.cons.inj h).2
   omega
  ·rw [if_pos h1, if_neg h2] at h
   exact absurd h.symm (no _ _)
 ·by_cases h2 : m < 0
  ·rw [if_neg h1, if_pos h2] at h
   exact absurd h (no _ _)
  ·rw [if_neg h1, if_neg h2] at h
   have := dec_inj _ _ h
   omega
theorem quoteB_head (c : UInt8) : (∃ d, quoteB c = [92, d]) ∨ (quoteB c = [c] ∧ c ≠ 92 ∧ c ≠ 34) := by
 unfold quoteB
 by_cases h1 : c = 10
 ·rw [if_pos h1]; exact .inl ⟨_, rfl⟩
 rw [if_neg h1]
 by_cases h2 : c = 9
 ·rw [if_pos h2]; exact .inl ⟨_, rfl⟩
 rw [if_neg h2]
 by_cases h3 : c = 34
 ·rw [if_pos h3]; exact .inl ⟨_, rfl⟩
 rw [if_neg h3]
 by_cases h4 : c = 92
 ·rw [if_pos h4]; exact .inl ⟨_, rfl⟩
 rw [if_neg h4]
 exact .inr ⟨rfl, h4, h3⟩
theorem quoteB_of {c d : UInt8} (h : quoteB c = [92, d]) : c = if d = 110 then 10 else if d = 116 then 9 else d := by
 unfold quoteB at h
 by_cases h1 : c = 10
 ·rw [if_pos h1] at h
  cases h
  exact h1
 rw [if_neg h1] at h
 by_cases h2 : c = 9
 ·rw [if_pos h2] at h
  cases h
  exact h2
 rw [if_neg h2] at h
 by_cases h3 : c = 34
 ·rw [if_pos h3] at h
  cases h
  exact h3
 rw [if_neg h3] at h
 by_cases h4 : c = 92
 ·rw [if_pos h4] at h
  cases h
  exact h4
 rw [if_neg h4] at h
 simp at h
theorem quoteB_two {c c' d : UInt8} (h : quoteB c = [92, d]) (h' : quoteB c' = [92, d]) : c = c' := (quoteB_of h).trans (quoteB_of h').symm
theorem quo_inj : ∀ {t t' x y : B}, t.flatMap quoteB ++ 34 :: x = t'.flatMap quoteB ++ 34 :: y → t = t' ∧ x = y
 | [], [], x, y, h => ⟨rfl, (List.cons.inj h).2⟩
 | [], c :: r, x, y, h => by
  exfalso
  rw [List.flatMap_nil, List.nil_append, List.flatMap_cons] at h
  rcases quoteB_head c with ⟨d, e⟩ | ⟨e, h1, h2⟩
  ·rw [e] at h
   exact absurd (List.cons.inj h).1 (by decide)
  ·rw [e] at h
   exact h2 (List.cons.inj h).1.symm
 | c :: r, [], x, y, h => by
  exfalso
  rw [List.flatMap_nil, List.nil_append, List.flatMap_cons] at h
  rcases quoteB_head c with ⟨d, e⟩ | ⟨e, h1, h2⟩
  ·rw [e] at h
   exact absurd (List.cons.inj h).1 (by decide)
  ·rw [e] at h
   exact h2 (List.cons.inj h).1
 | c :: r, c' :: r', x, y, h => by
  rw [List.flatMap_cons, List.flatMap_cons, List.append_assoc, List.append_assoc] at h
  have key : c = c' ∧ r.flatMap quoteB ++ 34 :: x = r'.flatMap quoteB ++ 34 :: y := by
   rcases quoteB_head c with ⟨d, e⟩ | ⟨e, h1, h2⟩
   ·rcases quoteB_head c' with ⟨d', e'⟩ | ⟨e', h1', h2'⟩
    ·rw [e, e'] at h
     have h1 := (List.cons.inj h).2
     obtain ⟨rfl, h2⟩ := List.cons.inj h1
     exact ⟨quoteB_two e e', h2⟩
    ·rw [e, e'] at h
     exact absurd (List.cons.inj h).1.symm h1'
   ·rcases quoteB_head c' with ⟨d', e'⟩ | ⟨e', h1', h2'⟩
    ·rw [e, e'] at h
     exact absurd (List.cons.inj h).1 h1
    ·rw [e, e'] at h
     exact ⟨(List.cons.inj h).1, (List.cons.inj h).2⟩
  obtain ⟨k1, k2⟩ := key
  obtain ⟨e1, e2⟩ := quo_inj k2
  exact ⟨by rw [k1, e1], e2⟩
theorem tail_inj {α : Type} {enc : α → B} {cl : UInt8} (hc : cl = 93 ∨ cl = 125) : ∀ {l l' : List α} {x y : B}, (∀ a ∈ l, ∀ b ∈ l', ∀ x y, Stop x → Stop y → enc a ++ x = enc b ++ y → a = b ∧ x = y) →
  Lib.joinTail [44, 32] (l.map enc) ++ cl :: x = Lib.joinTail [44, 32] (l'.map enc) ++ cl :: y → l = l' ∧ x = y
 | [], [], x, y, _, h => ⟨rfl, (List.cons.inj h).2⟩
 | [], b :: r, x, y, _, h => by
  exfalso
  have h := (List.cons.inj (show cl :: x = 44 :: _ from h)).1
  rcases hc with rfl | rfl <;> exact absurd h (by decide)
 | a :: r, [], x, y, _, h => by
  exfalso
  have h := (List.cons.inj (show 44 :: _ = cl :: y from h)).1
  rcases hc with rfl | rfl <;> exact absurd h (by decide)
 | a :: r, b :: r', x, y, hi, h => by
  have st : ∀ (l : List α) (z : B), Stop (Lib.joinTail [44, 32] (l.map enc) ++ cl :: z) := fun l z => by
   cases l with
   | nil => exact stop_cons (by rcases hc with h | h <;> simp [h])
   | cons c l => exact stop_cons (.inl rfl)
  have e : ∀ (a : α) (l : List α) (z : B), Lib.joinTail [44, 32] ((a :: l).map enc) ++ cl :: z = 44 :: 32 :: (enc a ++ (Lib.joinTail [44, 32] (l.map enc) ++ cl :: z)) := fun a l z => by
   simp [Lib.joinTail]
  rw [e, e] at h
  obtain ⟨rfl, h2⟩ := hi a List.mem_cons_self b List.mem_cons_self _ _ (st r x) (st r' y) (List.cons.inj (List.cons.inj h).2).2
  obtain ⟨rfl, h3⟩ := tail_inj hc (fun c hc d hd => hi c (List.mem_cons_of_mem _ hc) d (List.mem_cons_of_mem _ hd)) h2
  exact ⟨rfl, h3⟩
theorem list_inj {α : Type} {enc : α → B} {cl : UInt8} (hc : cl = 93 ∨ cl = 125) {l l' : List α} {x y : B} (hi : ∀ a ∈ l, ∀ b ∈ l', ∀ x y, Stop x → Stop y → enc a ++ x = enc b ++ y → a = b ∧ x = y)
  (h0 : ∀ a ∈ l ++ l', ∀ x y, enc a ++ x ≠ cl :: y) (h : Lib.join (l.map enc) [44, 32] ++ cl :: x = Lib.join (l'.map enc) [44, 32] ++ cl :: y) : l = l' ∧ x = y := by
 have st : ∀ (l : List α) (z : B), Stop (Lib.joinTail [44, 32] (l.map enc) ++ cl :: z) := fun l z => by
  cases l with
  | nil => exact stop_cons (by rcases hc with h | h <;> simp [h])
  | cons c l => exact stop_cons (.inl rfl)
 cases l with
 | nil =>
  cases l' with
  | nil => exact ⟨rfl, (List.cons.inj h).2⟩
  | cons b r =>
   exfalso
   rw [List.map_cons, Lib.join_cons, List.append_assoc] at h
   exact h0 b (by simp) _ _ h.symm
 | cons a r =>
  cases l' with
  | nil =>
   exfalso
   rw [List.map_cons, Lib.join_cons, List.append_assoc] at h
   exact h0 a (by simp) _ _ h
  | cons b r' =>
   rw [List.map_cons, Lib.join_cons, List.append_assoc, List.map_cons, Lib.join_cons, List.append_assoc] at h
   obtain ⟨rfl, h2⟩ := hi a List.mem_cons_self b List.mem_cons_self _ _ (st r x) (st r' y) h
   obtain ⟨rfl, h3⟩ := tail_inj hc (fun c hc d hd => hi c (List.mem_cons_of_mem _ hc) d (List.mem_cons_of_mem _ hd)) h2
   exact ⟨rfl, h3⟩
end Go.Shp
end
