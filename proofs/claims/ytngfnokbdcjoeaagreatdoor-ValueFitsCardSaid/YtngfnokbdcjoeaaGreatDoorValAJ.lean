/- The law behind: one part of its proof (joined by program out of my own texts). No condition. -/
import Derived.Test.YtngfnokbdcjoeaaGreatDoorValAI
section
namespace Go.Lift
open Go.Shp
mutual
def ShV (w : World) (k : Int) (o n : ByteArray) (ns ps : Sl) : Shape → Prop
 | .mk k' o' n' names parts => k = k' ∧ bl o = o' ∧ bl n = n' ∧ (RdS w ns (names.map bs) ∧ names.length < 4611686018427387904 ∧ ps.n = parts.length ∧ parts.length < 4611686018427387904 ∧ o.size < 4611686018427387904 ∧ n.size < 4611686018427387904 ∧ ∀ x ∈ names, x.length < 4611686018427387904) ∧ ShL w ps.a 0 parts
def ShL (w : World) (a : Option Addr) (i : Nat) : List Shape → Prop
 | [] => True
 | s :: r => (∃ (g off : Nat) (k : Int) (o n : ByteArray) (ns ps : Sl), a = some ⟨g, off, none⟩ ∧ w.cell? ⟨g, off + i * 5, none⟩ = some (.int .i64 k) ∧ w.cell? ⟨g, off + i * 5 + 1, none⟩ = some (.string o) ∧ w.cell? ⟨g, off + i * 5 + 2, none⟩ = some (.string n) ∧
   w.cell? ⟨g, off + i * 5 + 3, none⟩ = some (.slice ns.a ns.n ns.c) ∧ w.cell? ⟨g, off + i * 5 + 4, none⟩ = some (.slice ps.a ps.n ps.c) ∧ ShV w k o n ns ps s) ∧ ShL w a (i + 1) r
end
mutual
theorem ShV.fr {w w' : World} (F : Fr noB w w') : ∀ {s : Shape} {k : Int} {o n : ByteArray} {ns ps : Sl}, ShV w k o n ns ps s → ShV w' k o n ns ps s
 | .mk _ _ _ _ _, _, _, _, _, _, h => by
  unfold ShV at h ⊢
  exact ⟨h.1, h.2.1, h.2.2.1, ⟨h.2.2.2.1.1.fr F, h.2.2.2.1.2⟩, ShL.fr F h.2.2.2.2⟩
theorem ShL.fr {w w' : World} (F : Fr noB w w') : ∀ {l : List Shape} {a : Option Addr} {i : Nat}, ShL w a i l → ShL w' a i l
 | [], _, _, _ => by unfold ShL; trivial
 | s :: r, _, _, h => by
  unfold ShL at h ⊢
  obtain ⟨⟨g, off, k, o, n, ns, ps, h0, h1, h2, h3, h4, h5, h6⟩, hr⟩ := h
  exact ⟨⟨g, off, k, o, n, ns, ps, h0, F.cell h1 (fun h => h), F.cell h2 (fun h => h), F.cell h3 (fun h => h), F.cell h4 (fun h => h), F.cell h5 (fun h => h), ShV.fr F h6⟩, ShL.fr F hr⟩
end
theorem ShL.at {w : World} {a : Option Addr} : ∀ {l : List Shape} {i j : Nat} {s : Shape}, ShL w a i l → l[j]? = some s → ∃ (g off : Nat) (k : Int) (o n : ByteArray) (ns ps : Sl), a = some ⟨g, off, none⟩ ∧ w.cell? ⟨g, off + (i + j) * 5, none⟩ = some (.int .i64 k) ∧ w.cell? ⟨g, off + (i + j) * 5 + 1, none⟩ = some (.string o) ∧ w.cell? ⟨g, off + (i + j) * 5 + 2, none⟩ = some (.string n) ∧
   w.cell? ⟨g, off + (i + j) * 5 + 3, none⟩ = some (.slice ns.a ns.n ns.c) ∧ w.cell? ⟨g, off + (i + j) * 5 + 4, none⟩ = some (.slice ps.a ps.n ps.c) ∧ ShV w k o n ns ps s
 | [], _, _, _, _, hj => by simp at hj
 | x :: r, i, 0, s, h, hj => by
  unfold ShL at h
  simp only [List.getElem?_cons_zero, Option.some.injEq] at hj
  subst hj
  exact h.1
 | x :: r, i, j + 1, s, h, hj => by
  unfold ShL at h
  have := ShL.at h.2 (by simpa using hj)
  rw [show i + (j + 1) = i + 1 + j by omega]
  exact this
def shCells (k : Int) (o n : ByteArray) (ns ps : Sl) : List Value := [.int .i64 k, .string o, .string n, .slice ns.a ns.n ns.c, .slice ps.a ps.n ps.c]
@[reducible] def shArg (k : Int) (o n : ByteArray) (ns ps : Sl) : Value := .agg #[.int .i64 k, .string o, .string n, .slice ns.a ns.n ns.c, .slice ps.a ps.n ps.c]
section
variable {R : Ending → World → Prop} {w : World}
theorem part_ld {l : List Shape} {a : Option Addr} {len i : Nat} {s : Shape} {K : Int → ByteArray → ByteArray → Sl → Sl → G} (h : ShL w a 0 l) (hs : l[i]? = some s) (hl : len = l.length)
  (hk : ∀ k o n ns ps, ShV w k o n ns ps s → K k o n ns ps R w) :
  idxG a len (i : Int) 5 (fun (x : Addr) => ldG (.int .i64) (x.add 0) (fun (k : Int) => ldG .str (x.add 1) (fun (o : ByteArray) => ldG .str (x.add 2) (fun (n : ByteArray) => ldG .slice (x.add 3) (fun (ns : Sl) => ldG .slice (x.add 4) (fun (ps : Sl) => K k o n ns ps)))))) R w := by
 obtain ⟨g, off, k, o, n, ns, ps, rfl, c0, c1, c2, c3, c4, hv⟩ := h.at hs
 have hi := (List.getElem?_eq_some_iff.1 hs).1
 rw [Nat.zero_add] at c0 c1 c2 c3 c4
 refine idxB_ok (n := len) (i := i) (by omega) ?_
 simp only [Addr.add_lit, Nat.add_zero]
 exact ld_ok (c := .int .i64) c0 (ld_ok (c := .str) c1 (ld_ok (c := .str) c2 (ld_ok (c := .slice) (x := ns) c3 (ld_ok (c := .slice) (x := ps) c4 (hk k o n ns ps hv)))))
theorem ShV.parts {k : Int} {o n : ByteArray} {ns ps : Sl} {s : Shape} (h : ShV w k o n ns ps s) : k = s.kind ∧ bl o = s.of ∧ bl n = s.name ∧ (RdS w ns (s.names.map bs) ∧ s.names.length < 4611686018427387904 ∧ ps.n = s.parts.length ∧ s.parts.length < 4611686018427387904 ∧ o.size < 4611686018427387904 ∧ n.size < 4611686018427387904 ∧ ∀ x ∈ s.names, x.length < 4611686018427387904) ∧ ShL w ps.a 0 s.parts := by
 cases s
 unfold ShV at h
 exact h
end
end Go.Lift
end
section
namespace Go.Shp
open Go.Lex
mutual
def refSize : Shape → Nat → Nat
 | .mk _ _ _ _ ps, m => refSizes ps m 1
def refSizes : List Shape → Nat → Nat → Nat
 | [], _, n => n
 | s :: r, m, n => if n ≤ m then refSizes r m (n + refSize s (m - n)) else n
end
mutual
theorem refSize_spec : ∀ (s : Shape) (m : Nat), (size s ≤ m → refSize s m = size s) ∧ (m < size s → m < refSize s m)
 | .mk k o n ns ps, m => by
  have := refSizes_spec ps m 1
  rw [size_mk]
  unfold refSize
  exact this
theorem refSizes_spec : ∀ (l : List Shape) (m n : Nat), (n + sizes l ≤ m → refSizes l m n = n + sizes l) ∧ (m < n + sizes l → m < refSizes l m n)
 | [], m, n => by
  unfold sizes refSizes
  exact ⟨fun _ => rfl, fun h => h⟩
 | s :: r, m, n => by
  unfold sizes refSizes
  have h1 := refSize_spec s (m - n)
  have hp := size_pos s
  by_cases h : n ≤ m
  ·rw [if_pos h]
   have h2 := refSizes_spec r m (n + refSize s (m - n))
   constructor
   ·intro hs
    rw [h1.1 (by omega)] at h2 ⊢
    rw [h2.1 (by omega)]
    omega
   ·intro hs
    by_cases h3 : size s ≤ m - n
    ·rw [h1.1 h3] at h2 ⊢
     exact h2.2 (by omega)
    ·have := h1.2 (by omega)
     refine h2.2 (by omega)
  ·rw [if_neg h]
   exact ⟨fun hs => by omega, fun hs => by omega⟩
end
mutual
theorem refSize_le : ∀ (s : Shape) (m : Nat), refSize s m ≤ m + 1 ∧ 1 ≤ refSize s m
 | .mk k o n ns ps, m => by
  unfold refSize
  exact refSizes_le ps m 1 (by omega) (Nat.le_refl _)
theorem refSizes_le : ∀ (l : List Shape) (m n : Nat), n ≤ m + 1 → 1 ≤ n → refSizes l m n ≤ m + 1 ∧ 1 ≤ refSizes l m n
 | [], m, n, h, h1 => by unfold refSizes; exact ⟨h, h1⟩
 | s :: r, m, n, h, h1 => by
  unfold refSizes
  split
  ·have := refSize_le s (m - n)
   exact refSizes_le r m _ (by omega) (by omega)
  ·exact ⟨h, h1⟩
end
theorem allFits_mem : ∀ {l : List Shape} {s : Shape}, allFits l = true → s ∈ l → allFit s = true
 | x :: r, s, h, hs => by
  unfold allFits at h
  rw [Bool.and_eq_true] at h
  rcases List.mem_cons.1 hs with rfl | hs
  ·exact h.1
  ·exact allFits_mem h.2 hs
theorem allFit_parts {k : Int} {o n : B} {ns : List B} {ps : List Shape} (h : allFit (.mk k o n ns ps) = true) : fits (.mk k o n ns ps) = true ∧ ∀ s ∈ ps, allFit s = true := by
 unfold allFit at h
 rw [Bool.and_eq_true] at h
 exact ⟨h.1, fun s hs => allFits_mem h.2 hs⟩
theorem check_ok {s : Shape} : check s = 0 ↔ size s ≤ 400 ∧ deep s ≤ 40 ∧ allFit s = true := by
 unfold check
 by_cases h1 : 400 < size s
 ·rw [if_pos h1]; simp; omega
 rw [if_neg h1]
 by_cases h2 : 40 < deep s
 ·rw [if_pos h2]; simp; omega
 rw [if_neg h2]
 cases h3 : allFit s with
 | true => simp; omega
 | false => simp
theorem withinF_iff {f : Shape → Shape → Bool} {os : List B} {qs : List Shape} : ∀ {ns : List B} {ps : List Shape}, withinF f ns ps os qs = true ↔ ∀ (i : Nat) (n : B) (p : Shape), ns[i]? = some n → ps[i]? = some p → ∃ q, find os qs n = some q ∧ f p q = true
 | [], ps => by
  refine ⟨fun _ i n p h => by simp at h, fun _ => by simp [withinF]⟩
 | n :: ns, [] => by
  refine ⟨fun _ i n p _ h => by simp at h, fun _ => by simp [withinF]⟩
 | n :: ns, p :: ps => by
  unfold withinF
  rw [Bool.and_eq_true, withinF_iff]
  constructor
  ·rintro ⟨h1, h2⟩ i m q hn hp
   cases i with
   | zero =>
    simp only [List.getElem?_cons_zero, Option.some.injEq] at hn hp
    subst hn hp
    cases hf : find os qs n with
    | none => rw [hf] at h1; cases h1
    | some x => rw [hf] at h1; exact ⟨x, rfl, h1⟩
   | succ i => exact h2 i m q (by simpa using hn) (by simpa using hp)
  ·intro h
   refine ⟨?_, fun i m q hn hp => h (i + 1) m q (by simpa using hn) (by simpa using hp)⟩
   obtain ⟨x, hx, hfx⟩ := h 0 n p rfl rfl
   rw [hx]
   exact hfx
theorem find_iff : ∀ {ns : List B} {ps : List Shape} {n : B} {p : Shape}, ns.Nodup → (find ns ps n = some p ↔ ∃ i : Nat, ns[i]? = some n ∧ ps[i]? = some p)
 | [], ps, n, p, _ => by simp [find]
 | x :: ns, [], n, p, _ => by simp [find]
 | x :: ns, q :: ps, n, p, h => by
  rw [List.nodup_cons] at h
  unfold find
  by_cases hx : x = n
  ·subst hx
   rw [if_pos rfl]
   constructor
   ·intro e
    cases e
    exact ⟨0, rfl, rfl⟩
   ·rintro ⟨i, h1, h2⟩
    cases i with
    | zero => simpa using h2
    | succ i => exact absurd (List.mem_of_getElem? (by simpa using h1)) h.1
  ·rw [if_neg hx, find_iff h.2]
   constructor
   ·rintro ⟨i, h1, h2⟩
    exact ⟨i + 1, by simpa using h1, by simpa using h2⟩
   ·rintro ⟨i, h1, h2⟩
    cases i with
    | zero => simp only [List.getElem?_cons_zero, Option.some.injEq] at h1; exact absurd h1 hx
    | succ i => exact ⟨i, by simpa using h1, by simpa using h2⟩
theorem find_none {ns : List B} {ps : List Shape} {n : B} (hl : ns.length = ps.length) : find ns ps n = none ↔ n ∉ ns := by
 induction ns generalizing ps with
 | nil => simp [find]
 | cons x ns ih =>
  cases ps with
  | nil => simp at hl
  | cons q ps =>
   unfold find
   by_cases hx : x = n
   ·subst hx; simp
   ·rw [if_neg hx, ih (by simpa using hl)]
    simp only [List.mem_cons, not_or]
    exact ⟨fun h => ⟨fun e => hx e.symm, h⟩, fun h => h.2⟩
end Go.Shp
end
section
namespace Go.Shp
open Go.Lex Go.Lib
theorem u8lt (a b : UInt8) : a < b ↔ a.toNat < b.toNat := UInt8.lt_iff_toNat_lt
theorem cmp_self : ∀ a : B, compareBytes a a = 0
 | [] => rfl
 | a :: r => by
  unfold compareBytes
  rw [if_neg (by rw [u8lt]; omega), if_neg (by rw [u8lt]; omega)]
  exact cmp_self r
theorem cmp_neg : ∀ a b : B, compareBytes b a = -compareBytes a b
 | [], [] => rfl
 | [], _ :: _ => rfl
 | _ :: _, [] => rfl
 | a :: r, b :: t => by
  unfold compareBytes
  by_cases h1 : a < b
  ·have h2 : ¬ b < a := by rw [u8lt] at *; omega
   rw [if_pos h1, if_neg h2, if_pos h1]
   rfl
  ·rw [if_neg h1]
   by_cases h2 : b < a
   ·rw [if_pos h2, if_pos h2, if_neg h1]
   ·rw [if_neg h2, if_neg h2, if_neg h1]
    exact cmp_neg r t
theorem cmp_val : ∀ a b : B, compareBytes a b = -1 ∨ compareBytes a b = 0 ∨ compareBytes a b = 1
 | [], [] => .inr (.inl rfl)
 | [], _ :: _ => .inl rfl
 | _ :: _, [] => .inr (.inr rfl)
 | a :: r, b :: t => by
  unfold compareBytes
  split
  ·exact .inl rfl
  split
  ·exact .inr (.inr rfl)
  ·exact cmp_val r t
theorem cmp_zero : ∀ {a b : B}, compareBytes a b = 0 → a = b
 | [], [], _ => rfl
 | [], _ :: _, h => by simp [compareBytes] at h
 | _ :: _, [], h => by simp [compareBytes] at h
 | a :: r, b :: t, h => by
  unfold compareBytes at h
  split at h
  ·simp at h
  split at h
  ·simp at h
  ·rename_i h1 h2
   have : a = b := by
    rw [u8lt] at h1 h2
    exact UInt8.toNat_inj.1 (by omega)
   rw [this, cmp_zero h]
theorem cmp_trans : ∀ {a b c : B}, compareBytes a b < 0 → compareBytes b c < 0 → compareBytes a c < 0
 | [], [], _, h, _ => by simp [compareBytes] at h
 | _ :: _, [], _, h, _ => by simp [compareBytes] at h
 | _, _ :: _, [], _, h => by simp [compareBytes] at h
 | [], _ :: _, _ :: _, _, _ => by simp [compareBytes]
 | a :: r, b :: t, c :: u, h1, h2 => by
  unfold compareBytes at h1 h2 ⊢
  by_cases e1 : a < b
  ·by_cases e2 : b < c
   ·rw [if_pos (by rw [u8lt] at *; omega)]; decide
   ·rw [if_neg e2] at h2
    by_cases e3 : c < b
    ·rw [if_pos e3] at h2; simp at h2
    ·rw [if_pos (by rw [u8lt] at *; omega)]; decide
  ·rw [if_neg e1] at h1
   by_cases e3 : b < a
   ·rw [if_pos e3] at h1; simp at h1
   ·rw [if_neg e3] at h1
    by_cases e2 : b < c
    ·rw [if_pos (by rw [u8lt] at *; omega)]; decide
    ·rw [if_neg e2] at h2
     by_cases e4 : c < b
     ·rw [if_pos e4] at h2; simp at h2
     ·rw [if_neg e4] at h2
      rw [if_neg (by rw [u8lt] at *; omega), if_neg (by rw [u8lt] at *; omega)]
      exact cmp_trans h1 h2
theorem ltB_trans {a b c : B} (h1 : ltB a b = true) (h2 : ltB b c = true) : ltB a c = true := decide_eq_true (cmp_trans (of_decide_eq_true h1) (of_decide_eq_true h2))
theorem ltB_irr (a : B) : ltB a a = false := decide_eq_false (by rw [cmp_self]; omega)
theorem ltB_tri {a b : B} (h : a ≠ b) (h1 : ltB a b = false) : ltB b a = true := by
 have h1 := of_decide_eq_false h1
 refine decide_eq_true ?_
 rw [cmp_neg]
 have := cmp_val a b
 have h0 : compareBytes a b ≠ 0 := fun e => h (cmp_zero e)
 omega
def Up (l : List (B × Shape)) : Prop := l.Pairwise fun x y => ltB x.1 y.1 = true
theorem insertP_mem {n : B} {p : Shape} : ∀ {l : List (B × Shape)} {x : B × Shape}, x ∈ insertP n p l ↔ x = (n, p) ∨ x ∈ l
 | [], x => by simp [insertP]
 | (m, q) :: r, x => by
  unfold insertP
  split
  ·rw [List.mem_cons, insertP_mem, List.mem_cons]
   constructor
   ·rintro (h | h | h)
    ·exact .inr (.inl h)
    ·exact .inl h
    ·exact .inr (.inr h)
   ·rintro (h | h | h)
    ·exact .inr (.inl h)
    ·exact .inl h
    ·exact .inr (.inr h)
  ·rw [List.mem_cons, List.mem_cons]
theorem insertP_perm (n : B) (p : Shape) : ∀ l : List (B × Shape), (insertP n p l).Perm ((n, p) :: l)
 | [] => List.Perm.refl _
 | (m, q) :: r => by
  unfold insertP
  split
  ·exact ((insertP_perm n p r).cons _).trans (List.Perm.swap _ _ _)
  ·exact List.Perm.refl _
theorem sortP_perm : ∀ l : List (B × Shape), (sortP l).Perm l
 | [] => List.Perm.refl _
 | (n, p) :: r => by
  unfold sortP
  exact (insertP_perm n p _).trans ((sortP_perm r).cons _)
theorem insertP_up {n : B} {p : Shape} : ∀ {l : List (B × Shape)}, Up l → (∀ x ∈ l, x.1 ≠ n) → Up (insertP n p l)
 | [], _, _ => List.pairwise_singleton _ _
 | (m, q) :: r, h, hn => by
  unfold Up at h ⊢
  rw [List.pairwise_cons] at h
  unfold insertP
  split
  ·rename_i hlt
   rw [List.pairwise_cons]
   refine ⟨fun x hx => ?_, insertP_up h.2 fun x hx => hn x (List.mem_cons_of_mem _ hx)⟩
   rcases insertP_mem.1 hx with rfl | hx
   ·exact hlt
   ·exact h.1 x hx
  ·rename_i hlt
   have hlt : ltB m n = false := by simpa using hlt
   have hnm := ltB_tri (hn _ List.mem_cons_self) hlt
   rw [List.pairwise_cons, List.pairwise_cons]
   refine ⟨fun x hx => ?_, h.1, h.2⟩
   rcases List.mem_cons.1 hx with rfl | hx
   ·exact hnm
   ·exact ltB_trans hnm (h.1 x hx)
theorem sortP_up : ∀ {l : List (B × Shape)}, (l.map (·.1)).Nodup → Up (sortP l)
 | [], _ => List.Pairwise.nil
 | (n, p) :: r, h => by
  rw [List.map_cons, List.nodup_cons] at h
  unfold sortP
  refine insertP_up (sortP_up h.2) fun x hx e => h.1 ?_
  have := (sortP_perm r).mem_iff.1 hx
  exact List.mem_map.2 ⟨x, this, e⟩
theorem up_unique : ∀ {l m : List (B × Shape)}, Up l → Up m → l.Perm m → l = m
 | [], m, _, _, h => (List.nil_perm.1 h).symm
 | x :: l, [], _, _, h => by have := h.length_eq; simp at this
 | x :: l, y :: m, hl, hm, h => by
  unfold Up at hl hm
  rw [List.pairwise_cons] at hl hm
  have hxy : x = y := by
   have hx : x ∈ y :: m := h.mem_iff.1 List.mem_cons_self
   have hy : y ∈ x :: l := h.mem_iff.2 List.mem_cons_self
   rcases List.mem_cons.1 hx with e | hx
   ·exact e
   rcases List.mem_cons.1 hy with e | hy
   ·exact e.symm
   have h1 := hl.1 y hy
   have h2 := hm.1 x hx
   have := ltB_trans h1 h2
   rw [ltB_irr] at this
   cases this
  subst hxy
  rw [up_unique hl.2 hm.2 (List.Perm.cons_inv h)]
theorem up_sortP {l m : List (B × Shape)} (hn : (l.map (·.1)).Nodup) (hm : Up m) (h : m.Perm l) : m = sortP l := up_unique hm (sortP_up hn) (h.trans (sortP_perm l).symm)
end Go.Shp
end
section
namespace Go.Shp
open Go.Lex
theorem fits_named {k : Int} {o n : B} {ns : List B} {ps : List Shape} (h : fits (.mk k o n ns ps) = true) (hk : k = 6 ∨ k = 7) : ns.length = ps.length ∧ ns.Nodup := by
 unfold fits at h
 simp only [] at h
 rw [if_neg (by omega), if_neg (by omega), if_pos hk] at h
 unfold namedOk at h
 simp only [Bool.and_eq_true, decide_eq_true_eq] at h
 exact ⟨h.2.1.1, h.2.2⟩
theorem fits_leaf {k : Int} {o n : B} {ns : List B} {ps : List Shape} (h : fits (.mk k o n ns ps) = true) (hk : k ≠ 5 ∧ k ≠ 6 ∧ k ≠ 7 ∧ k ≠ 8) : ps = [] ∧ ns = [] := by
 unfold fits at h
 simp only [] at h
 rw [if_neg (c := k = 5) hk.1, if_neg (c := k = 6 ∨ k = 7) (by omega), if_neg (c := k = 8) hk.2.2.2] at h
 repeat' split at h
 all_goals first | (cases h; done) | skip
 all_goals
  simp only [Bool.and_eq_true, List.isEmpty_iff] at h
  exact ⟨h.2, h.1.2⟩
theorem funAll_iff {f : Shape → Shape → Bool} : ∀ {ps qs : List Shape}, funAll f ps qs = true ↔ ps.length = qs.length ∧ ∀ (i : Nat) (p q : Shape), ps[i]? = some p → qs[i]? = some q → if i + 1 = ps.length then f p q = true else f q p = true
 | [], [] => by simp [funAll]
 | [], _ :: _ => by simp [funAll]
 | [x], [] => by simp [funAll]
 | x :: y :: r, [] => by simp [funAll]
 | [x], [y] => by
  unfold funAll
  constructor
  ·intro h
   refine ⟨rfl, fun i p q hp hq => ?_⟩
   cases i with
   | zero =>
    simp only [List.getElem?_cons_zero, Option.some.injEq] at hp hq
    subst hp hq
    exact h
   | succ i => simp at hp
  ·rintro ⟨_, h⟩
   exact h 0 x y rfl rfl
 | [x], y :: z :: t => by simp [funAll]
 | x :: y :: r, [z] => by
  have : funAll f (x :: y :: r) [z] = (f z x && funAll f (y :: r) []) := by conv => lhs; unfold funAll
  rw [this]
  cases r <;> simp [funAll]
 | x :: y :: r, z :: u :: t => by
  have e : funAll f (x :: y :: r) (z :: u :: t) = (f z x && funAll f (y :: r) (u :: t)) := by conv => lhs; unfold funAll
  rw [e, Bool.and_eq_true, funAll_iff]
  constructor
  ·rintro ⟨h1, h2, h3⟩
   refine ⟨by simpa using h2, fun i p q hp hq => ?_⟩
   cases i with
   | zero =>
    simp only [List.getElem?_cons_zero, Option.some.injEq] at hp hq
    subst hp hq
    rw [if_neg (by simp)]
    exact h1
   | succ i =>
    have := h3 i p q (by simpa using hp) (by simpa using hq)
    simp only [List.length_cons] at this ⊢
    by_cases hi : i + 1 = r.length + 1
    ·rw [if_pos hi] at this; rw [if_pos (by omega)]; exact this
    ·rw [if_neg hi] at this; rw [if_neg (by omega)]; exact this
  ·rintro ⟨h1, h2⟩
   refine ⟨?_, by simpa using h1, fun i p q hp hq => ?_⟩
   ·have := h2 0 x z rfl rfl
    rw [if_neg (by simp)] at this
    exact this
   ·have := h2 (i + 1) p q (by simpa using hp) (by simpa using hq)
    simp only [List.length_cons] at this ⊢
    by_cases hi : i + 1 = r.length + 1
    ·rw [if_pos (by omega)] at this; rw [if_pos hi]; exact this
    ·rw [if_neg (by omega)] at this; rw [if_neg hi]; exact this
end Go.Shp
end
section
namespace Go.Shp
open Go.Lex
theorem sortL_map : ∀ l : List Shape, sortL l = l.map sortS
 | [] => by rw [sortL]; rfl
 | s :: r => by rw [sortL, sortL_map r]; rfl
theorem sortS_nil (k : Int) (o n : B) (ps : List Shape) : sortS (.mk k o n [] ps) = .mk k o n [] (ps.map sortS) := by rw [sortS, if_pos rfl, sortL_map]
def pairs (ns : List B) (ps : List Shape) : List (B × Shape) := sortP (ns.zip (ps.map sortS))
theorem sortS_cons {k : Int} {o n : B} {ns : List B} {ps : List Shape} (h : ns ≠ []) : sortS (.mk k o n ns ps) = .mk k o n ((pairs ns ps).map (·.1)) ((pairs ns ps).map (·.2)) := by rw [sortS, if_neg h, sortL_map]; rfl
theorem zip_fst {α β : Type} : ∀ {l : List α} {m : List β}, l.length = m.length → (l.zip m).map (·.1) = l
 | [], [], _ => rfl
 | [], _ :: _, h => by simp at h
 | _ :: _, [], h => by simp at h
 | a :: l, b :: m, h => by
  rw [List.zip_cons_cons, List.map_cons, zip_fst (by simpa using h)]
theorem pairs_names {ns : List B} {ps : List Shape} (h : ns.length = ps.length) : ((pairs ns ps).map (·.1)).Perm ns := by
 have := (sortP_perm (ns.zip (ps.map sortS))).map (·.1)
 rw [zip_fst (by simpa using h)] at this
 exact this
theorem pairs_len {ns : List B} {ps : List Shape} (h : ns.length = ps.length) : (pairs ns ps).length = ps.length := by
 have := (sortP_perm (ns.zip (ps.map sortS))).length_eq
 unfold pairs
 rw [this, List.length_zip, List.length_map]
 omega
theorem pairs_mem {ns : List B} {ps : List Shape} {n : B} {q : Shape} : (n, q) ∈ pairs ns ps ↔ ∃ (i : Nat) (p : Shape), ns[i]? = some n ∧ ps[i]? = some p ∧ q = sortS p := by
 unfold pairs
 rw [(sortP_perm _).mem_iff, List.mem_iff_getElem?]
 constructor
 ·rintro ⟨i, hi⟩
  rw [List.getElem?_zip_eq_some] at hi
  obtain ⟨h1, h2⟩ := hi
  rw [List.getElem?_map] at h2
  obtain ⟨p, hp, e⟩ := Option.map_eq_some_iff.1 h2
  exact ⟨i, p, h1, hp, e.symm⟩
 ·rintro ⟨i, p, h1, h2, e⟩
  refine ⟨i, ?_⟩
  rw [List.getElem?_zip_eq_some, List.getElem?_map, h2]
  exact ⟨h1, by rw [e]; rfl⟩
theorem pair_at {z : List (B × Shape)} {j : Nat} {n : B} {q : Shape} : ((z.map (·.1))[j]? = some n ∧ (z.map (·.2))[j]? = some q) ↔ z[j]? = some (n, q) := by
 rw [List.getElem?_map, List.getElem?_map]
 cases h : z[j]? with
 | none => simp
 | some x =>
  obtain ⟨a, b⟩ := x
  simp
theorem deeps_le {l : List Shape} {d : Nat} (h : ∀ s ∈ l, deep s ≤ d) : deeps l ≤ d := by
 induction l with
 | nil => exact Nat.zero_le _
 | cons s r ih =>
  rw [deeps]
  exact Nat.max_le.2 ⟨h s List.mem_cons_self, ih fun x hx => h x (List.mem_cons_of_mem _ hx)⟩
theorem allFits_of {l : List Shape} (h : ∀ s ∈ l, allFit s = true) : allFits l = true := by
 induction l with
 | nil => rw [allFits]
 | cons s r ih =>
  rw [allFits, h s List.mem_cons_self, ih fun x hx => h x (List.mem_cons_of_mem _ hx)]
  rfl
theorem sort_facts : ∀ (d : Nat) (s : Shape), deep s ≤ d → allFit s = true → allFit (sortS s) = true ∧ deep (sortS s) ≤ deep s ∧ ∀ f, deep s ≤ f → belowF f s (sortS s) = true ∧ belowF f (sortS s) s = true
 | 0, s, h, _ => by have := deep_pos s; omega
 | d + 1, .mk k o n ns ps, hd, ha => by
  rw [deep_mk] at hd
  obtain ⟨hf, hp⟩ := allFit_parts ha
  have ih : ∀ p ∈ ps, allFit (sortS p) = true ∧ deep (sortS p) ≤ deep p ∧ ∀ f, deep p ≤ f → belowF f p (sortS p) = true ∧ belowF f (sortS p) p = true := fun p hm => sort_facts d p (by have := deep_mem hm; omega) (hp p hm)
  by_cases hns : ns = []
  ·subst hns
   rw [sortS_nil]
   refine ⟨?_, ?_, ?_⟩
   ·rw [allFit, allFits_of fun s hs => ?_, Bool.and_true]
    ·unfold fits at hf ⊢
     simpa using hf
    ·obtain ⟨p, hm, rfl⟩ := List.mem_map.1 hs
     exact (ih p hm).1
   ·rw [deep_mk, deep_mk]
    have := deeps_le (l := ps.map sortS) (d := deeps ps) fun s hs => by
     obtain ⟨p, hm, rfl⟩ := List.mem_map.1 hs
     exact Nat.le_trans (ih p hm).2.1 (deep_mem hm)
    omega
   ·intro f hfu
    rw [deep_mk] at hfu
    obtain ⟨g, rfl⟩ : ∃ g, f = g + 1 := ⟨f - 1, by omega⟩
    have key : ∀ p ∈ ps, belowF g p (sortS p) = true ∧ belowF g (sortS p) p = true := fun p hm => (ih p hm).2.2 g (by have := deep_mem hm; omega)
    have fa : funAll (belowF g) ps (ps.map sortS) = true ∧ funAll (belowF g) (ps.map sortS) ps = true := by
     constructor
     ·rw [funAll_iff]
      refine ⟨by simp, fun i p q h1 h2 => ?_⟩
      rw [List.getElem?_map, h1] at h2
      cases h2
      have := key p (List.mem_of_getElem? h1)
      split
      ·exact this.1
      ·exact this.2
     ·rw [funAll_iff]
      refine ⟨by simp, fun i q p h2 h1 => ?_⟩
      rw [List.getElem?_map, h1] at h2
      cases h2
      have := key p (List.mem_of_getElem? h1)
      split
      ·exact this.2
      ·exact this.1
    constructor
    ·unfold belowF
     rw [if_neg (by simp)]
     by_cases h9 : k = 9 ∨ k = 10
     ·rw [if_pos h9]; simp
     rw [if_neg h9]
     by_cases h6 : k = 6
     ·rw [if_pos h6]; simp [withinF]
     rw [if_neg h6]
     by_cases h7 : k = 7
     ·rw [if_pos h7]; simp [withinF]
     rw [if_neg h7]
     exact fa.1
    ·unfold belowF
     rw [if_neg (by simp)]
     by_cases h9 : k = 9 ∨ k = 10
     ·rw [if_pos h9]; simp
     rw [if_neg h9]
     by_cases h6 : k = 6
     ·rw [if_pos h6]; simp [withinF]
     rw [if_neg h6]
     by_cases h7 : k = 7
     ·rw [if_pos h7]; simp [withinF]
     rw [if_neg h7]
     exact fa.2
  ·have hk : k = 6 ∨ k = 7 := by
    by_cases h : k = 6 ∨ k = 7
    ·exact h
    ·exfalso
     unfold fits at hf
     simp only [] at hf
     rw [if_neg (c := k = 6 ∨ k = 7) h] at hf
     have : ns.isEmpty = false := by cases ns with
      | nil => exact absurd rfl hns
      | cons _ _ => rfl
     rw [this] at hf
     repeat' split at hf
     all_goals simp at hf
   obtain ⟨hl, hnd⟩ := fits_named hf hk
   have hpn := pairs_names (ns := ns) (ps := ps) hl
   have hlen := pairs_len (ns := ns) (ps := ps) hl
   have hnd2 : ((pairs ns ps).map (·.1)).Nodup := hpn.nodup_iff.2 hnd
   rw [sortS_cons hns]
   refine ⟨?_, ?_, ?_⟩
   ·rw [allFit, allFits_of fun s hs => ?_, Bool.and_true]
    ·unfold fits at hf ⊢
     simp only [] at hf ⊢
     rw [if_neg (by omega), if_neg (by omega), if_pos hk] at hf ⊢
     unfold namedOk at hf ⊢
     simp only [Bool.and_eq_true, decide_eq_true_eq, List.length_map] at hf ⊢
     refine ⟨hf.1, ⟨trivial, ?_⟩, hnd2⟩
     rw [List.all_eq_true] at hf ⊢
     exact fun x hx => hf.2.1.2 x (hpn.mem_iff.1 hx)
    ·obtain ⟨⟨m, q⟩, hm, rfl⟩ := List.mem_map.1 hs
     obtain ⟨i, p, _, h2, e⟩ := pairs_mem.1 hm
     show allFit q = true
     rw [e]
     exact (ih p (List.mem_of_getElem? h2)).1
   ·rw [deep_mk, deep_mk]
    have := deeps_le (l := (pairs ns ps).map (·.2)) (d := deeps ps) fun s hs => by
     obtain ⟨⟨m, q⟩, hm, rfl⟩ := List.mem_map.1 hs
     obtain ⟨i, p, _, h2, e⟩ := pairs_mem.1 hm
     show deep q ≤ _
     rw [e]
     exact Nat.le_trans (ih p (List.mem_of_getElem? h2)).2.1 (deep_mem (List.mem_of_getElem? h2))
    omega
   ·intro f hfu
    rw [deep_mk] at hfu
    obtain ⟨g, rfl⟩ : ∃ g, f = g + 1 := ⟨f - 1, by omega⟩
    have key : ∀ p ∈ ps, belowF g p (sortS p) = true ∧ belowF g (sortS p) p = true := fun p hm => (ih p hm).2.2 g (by have := deep_mem hm; omega)
    -- from the ordered ones to the others, and back
    have to' : ∀ (h : Shape → Shape → Bool), (∀ p ∈ ps, h (sortS p) p = true) → withinF h ((pairs ns ps).map (·.1)) ((pairs ns ps).map (·.2)) ns ps = true := fun h hh => by
     rw [withinF_iff]
     intro j m q h1 h2
     have hm := List.mem_of_getElem? (pair_at.1 ⟨h1, h2⟩)
     obtain ⟨i, p, h3, h4, e⟩ := pairs_mem.1 hm
     exact ⟨p, (find_iff hnd).2 ⟨i, h3, h4⟩, by rw [e]; exact hh p (List.mem_of_getElem? h4)⟩
    have fro : ∀ (h : Shape → Shape → Bool), (∀ p ∈ ps, h p (sortS p) = true) → withinF h ns ps ((pairs ns ps).map (·.1)) ((pairs ns ps).map (·.2)) = true := fun h hh => by
     rw [withinF_iff]
     intro i m p h1 h2
     have hm : (m, sortS p) ∈ pairs ns ps := pairs_mem.2 ⟨i, p, h1, h2, rfl⟩
     obtain ⟨j, hj⟩ := List.mem_iff_getElem?.1 hm
     obtain ⟨h3, h4⟩ := pair_at.2 hj
     exact ⟨sortS p, (find_iff hnd2).2 ⟨j, h3, h4⟩, hh p (List.mem_of_getElem? h2)⟩
    unfold belowF
    rcases hk with rfl | rfl
    ·simp only [ne_eq, not_true_eq_false, if_false, Int.reduceEq, or_self, if_true]
     exact ⟨to' _ fun p hm => (key p hm).1, fro _ fun p hm => (key p hm).2⟩
    ·simp only [ne_eq, not_true_eq_false, if_false, Int.reduceEq, or_self, if_true]
     exact ⟨fro _ fun p hm => (key p hm).1, to' _ fun p hm => (key p hm).2⟩
end Go.Shp
end
section

end
section
namespace Go.Shp
theorem refSizes_stop {m : Nat} : ∀ {l : List Shape} {n : Nat}, m < n → refSizes l m n = n
 | [], n, _ => by rw [refSizes]
 | s :: r, n, h => by rw [refSizes, if_neg (by omega)]
theorem refSizes_drop {l : List Shape} {i m n : Nat} {s : Shape} (h : l[i]? = some s) (hn : n ≤ m) : refSizes (l.drop i) m n = refSizes (l.drop (i + 1)) m (n + refSize s (m - n)) := by
 obtain ⟨hi, e⟩ := List.getElem?_eq_some_iff.1 h
 rw [List.drop_eq_getElem_cons hi, e]
 conv => lhs; unfold refSizes
 rw [if_pos hn]
theorem deeps_le_sizes (l : List Shape) : deeps l ≤ sizes l := deeps_sizes l
theorem deeps_take {l : List Shape} {i : Nat} {s : Shape} (h : l[i]? = some s) : deeps (l.take (i + 1)) = max (deeps (l.take i)) (deep s) := by
 induction l generalizing i with
 | nil => simp at h
 | cons x r ih =>
  cases i with
  | zero =>
   simp only [List.getElem?_cons_zero, Option.some.injEq] at h
   subst h
   simp [deeps]
  | succ i =>
   have := ih (i := i) (by simpa using h)
   rw [List.take_succ_cons, List.take_succ_cons, deeps, deeps, this]
   omega
end Go.Shp
namespace Go.Proofs.YtngfnokbdcjoeaaGreatDoor
open Go.Lift Go.Lex Go.Shp
theorem rSize_ok : ∀ (d : Nat) (s : Shape), size s ≤ d → ∀ {w : World} {k : Int} {o n : ByteArray} {ns ps : Sl} (m : Nat), m ≤ 1000000 → ShV w k o n ns ps s →
  Calls Tryz.prog 58 #[shArg k o n ns ps, .int .i64 (m : Int)] w fun e w' => e = .returned (.int .i64 ((refSize s m : Nat) : Int)) ∧ Fr noB w w'
 | 0, s, h, _, _, _, _, _, _, _, _, _ => by have := size_pos s; omega
 | d + 1, .mk k' o' n' names parts, hd, w, k, o, n, ns, ps, m, hm, hv => by
  rw [size_mk] at hd
  obtain ⟨_, _, _, ⟨_, _, hpn, hpl, _⟩, hps⟩ := hv.parts
  change ps.n = parts.length at hpn
  change parts.length < 4611686018427387904 at hpl
  change ShL w ps.a 0 parts at hps
  have hle := (refSize_le (.mk k' o' n' names parts) m).1
  apply c58
  unfold t58 wrZ ivZ shZ ldLZ ld5xZ nw5Z caIZ jnBZ jnIZ lpIIZ ixZ
  refine new_ok fun w1 m6 hm6 hs1 B1 F1 => ?_
  change Blk w1 m6 _ (shCells k o n ns ps) at B1
  refine join1_ok (c := .int .i64) (fun (x : Int) w' => x = ((refSize (.mk k' o' n' names parts) m : Nat) : Int) ∧ Fr noB w w') (fun k7 hk7 => ?_) (fun x w' ⟨h1, F⟩ => ⟨by rw [h1], F⟩)
  refine loop_ok (vs := [.one (.int .i64), .one (.int .i64)]) (fun xs w' => ∃ i c : Nat, (show Int from xs.1.1) = (c : Int) ∧ (show Int from xs.2.1.1) = (i : Int) ∧ i ≤ parts.length ∧ c ≤ m + 1 ∧ 1 ≤ c ∧ refSizes (parts.drop i) m c = refSize (.mk k' o' n' names parts) m ∧ Fr noB w1 w')
   (fun xs => parts.length - (show Int from xs.2.1.1).toNat) ?_ (xs := (((1 : Int), ()), (((0 : Int), ()), ()))) ⟨0, 1, rfl, rfl, Nat.zero_le _, by omega, Nat.le_refl _, by rw [List.drop_zero, refSize], Fr.refl _ _⟩
  rintro rec ⟨⟨c', ⟨⟩⟩, ⟨⟨i', ⟨⟩⟩, ⟨⟩⟩⟩ w2 ⟨i, c, hc, hi, hil, hcm, hc1, hq, F2⟩ hrec
  change Int at c'
  change Int at i'
  change c' = _ at hc
  change i' = _ at hi
  subst hc hi
  have B2 := B1.fr F2 (fun h => h)
  refine join1_ok (c := .bool) (fun (b : Bool) w' => b = (decide (i < parts.length) && decide (c ≤ m)) ∧ w' = w2) (fun kj hkj => B2.ldS (o := 4) rfl (ite_ok (fun h => hkj _ _ ⟨?_, rfl⟩) fun h => hkj _ _ ⟨?_, rfl⟩)) ?_
  ·have h : (i : Int) < (ps.n : Int) := of_decide_eq_true h
   rw [decide_eq_true (by omega : i < parts.length), Bool.true_and]
   exact decide_eq_decide.2 (by omega)
  ·have h : ¬ (i : Int) < (ps.n : Int) := of_decide_eq_false h
   rw [decide_eq_false (by omega : ¬ i < parts.length), Bool.false_and]
  rintro b w3 ⟨rfl, hw⟩
  replace hw := hw.symm
  subst hw
  by_cases hgo : i < parts.length ∧ c ≤ m
  ·obtain ⟨s, hs⟩ : ∃ s, parts[i]? = some s := ⟨_, List.getElem?_eq_getElem hgo.1⟩
   have hsz := size_mem (List.mem_of_getElem? hs)
   have hrs := refSize_le s (m - c)
   refine ite_yes (by rw [decide_eq_true hgo.1, decide_eq_true hgo.2]; rfl) (join_in (vs := [.one (.int .i64)]) (B2.ldS (o := 4) rfl ?_))
   refine part_ld (hps.fr (F1.tr F2)) hs hpn fun k1 o1 n1 ns1 ps1 hv1 => ?_
   have ewm : IntKind.wrap .i64 ((m : Int) - (c : Int)) = ((m - c : Nat) : Int) := by rw [wrap_ok (by omega) (by omega)]; omega
   rw [ewm]
   refine callI_ok (rSize_ok d s (by omega) (m - c) (by omega) hv1) fun w4 F4 => ?_
   have ewc : IntKind.wrap .i64 ((c : Int) + ((refSize s (m - c) : Nat) : Int)) = ((c + refSize s (m - c) : Nat) : Int) := by rw [wrap_ok (by omega) (by omega)]; omega
   have ewi : IntKind.wrap .i64 ((i : Int) + 1) = ((i + 1 : Nat) : Int) := by rw [wrap_ok (by omega) (by omega)]; omega
   show uncV rec ((IntKind.wrap .i64 ((c : Int) + ((refSize s (m - c) : Nat) : Int)), ()), ((IntKind.wrap .i64 ((i : Int) + 1), ()), ())) _ w4
   rw [ewc, ewi]
   exact hrec _ _ ⟨i + 1, c + refSize s (m - c), rfl, rfl, by omega, by omega, by omega, by rw [← hq, refSizes_drop hs hgo.2], F2.tr F4⟩ (by show parts.length - ((i + 1 : Nat) : Int).toNat < parts.length - ((i : Nat) : Int).toNat; simp only [Int.toNat_natCast]; omega)
  ·refine ite_no ?_ (hk7 _ _ ⟨?_, F1.tr F2⟩)
   ·rw [Bool.eq_false_iff]
    intro h
    rw [Bool.and_eq_true] at h
    exact hgo ⟨of_decide_eq_true h.1, of_decide_eq_true h.2⟩
   ·rw [← hq]
    by_cases hcm' : c ≤ m
    ·have : parts.length ≤ i := by
      rcases Nat.lt_or_ge i parts.length with h | h
      ·exact absurd ⟨h, hcm'⟩ hgo
      ·exact h
     rw [List.drop_of_length_le this, refSizes]
    ·rw [refSizes_stop (by omega)]
theorem rDeep_ok : ∀ (d : Nat) (s : Shape), size s ≤ d → size s ≤ 100000 → ∀ {w : World} {k : Int} {o n : ByteArray} {ns ps : Sl}, ShV w k o n ns ps s →
  Calls Tryz.prog 59 #[shArg k o n ns ps] w fun e w' => e = .returned (.int .i64 ((deep s : Nat) : Int)) ∧ Fr noB w w'
 | 0, s, h, _, _, _, _, _, _, _, _ => by have := size_pos s; omega
 | d + 1, .mk k' o' n' names parts, hd, hbig, w, k, o, n, ns, ps, hv => by
  rw [size_mk] at hd hbig
  obtain ⟨_, _, _, ⟨_, _, hpn, hpl, _⟩, hps⟩ := hv.parts
  change ps.n = parts.length at hpn
  change parts.length < 4611686018427387904 at hpl
  change ShL w ps.a 0 parts at hps
  have hdl := deeps_le_sizes parts
  apply c59
  unfold t59 wrZ ivZ shZ ldLZ ld5xZ nw5Z caIZ jnIZ lpIIZ ixZ
  refine new_ok fun w1 m5 hm5 hs1 B1 F1 => ?_
  change Blk w1 m5 _ (shCells k o n ns ps) at B1
  refine join1_ok (c := .int .i64) (fun (x : Int) w' => x = ((deeps parts : Nat) : Int) ∧ Fr noB w w') (fun k7 hk7 => ?_) (fun x w' ⟨h1, F⟩ => ⟨?_, F⟩)
  rotate_left
  ·rw [h1, wrap_ok (by omega) (by omega), deep_mk]
   congr 3
   omega
  refine loop_ok (vs := [.one (.int .i64), .one (.int .i64)]) (fun xs w' => ∃ i : Nat, (show Int from xs.1.1) = ((deeps (parts.take i) : Nat) : Int) ∧ (show Int from xs.2.1.1) = (i : Int) ∧ i ≤ parts.length ∧ Fr noB w1 w')
   (fun xs => parts.length - (show Int from xs.2.1.1).toNat) ?_ (xs := (((0 : Int), ()), (((0 : Int), ()), ()))) ⟨0, rfl, rfl, Nat.zero_le _, Fr.refl _ _⟩
  rintro rec ⟨⟨c', ⟨⟩⟩, ⟨⟨i', ⟨⟩⟩, ⟨⟩⟩⟩ w2 ⟨i, hc, hi, hil, F2⟩ hrec
  change Int at c'
  change Int at i'
  change c' = _ at hc
  change i' = _ at hi
  subst hc hi
  have B2 := B1.fr F2 (fun h => h)
  refine B2.ldS (o := 4) rfl (ite_ok (fun h => ?_) fun h => hk7 _ _ ⟨?_, F1.tr F2⟩)
  rotate_left
  ·have h : ¬ (i : Int) < (ps.n : Int) := of_decide_eq_false h
   rw [List.take_of_length_le (by omega)]
  have h : (i : Int) < (ps.n : Int) := of_decide_eq_true h
  obtain ⟨s, hs⟩ : ∃ s, parts[i]? = some s := ⟨_, List.getElem?_eq_getElem (by omega)⟩
  have hsz := size_mem (List.mem_of_getElem? hs)
  refine join_in (vs := [.one (.int .i64)]) (B2.ldS (o := 4) rfl ?_)
  refine part_ld (hps.fr (F1.tr F2)) hs hpn fun k1 o1 n1 ns1 ps1 hv1 => ?_
  refine callI_ok (rDeep_ok d s (by omega) (by omega) hv1) fun w3 F3 => ?_
  have ewi : IntKind.wrap .i64 ((i : Int) + 1) = ((i + 1 : Nat) : Int) := by rw [wrap_ok (by omega) (by omega)]; omega
  have next : ∀ {x : Int}, x = ((deeps (parts.take (i + 1)) : Nat) : Int) → uncV rec ((x, ()), ((IntKind.wrap .i64 ((i : Int) + 1), ()), ())) _ w3 := fun {x} hx => by
   rw [ewi]
   exact hrec _ _ ⟨i + 1, hx, rfl, by omega, F2.tr F3⟩ (by show parts.length - ((i + 1 : Nat) : Int).toNat < parts.length - ((i : Nat) : Int).toNat; simp only [Int.toNat_natCast]; omega)
  have e := deeps_take hs
  refine join_in (vs := [.one (.int .i64)]) (ite_ok (fun h => next ?_) fun h => next ?_)
  ·have h : ((deep s : Nat) : Int) > ((deeps (parts.take i) : Nat) : Int) := of_decide_eq_true h
   rw [e]
   omega
  ·have h : ¬ ((deep s : Nat) : Int) > ((deeps (parts.take i) : Nat) : Int) := of_decide_eq_false h
   rw [e]
   omega
end Go.Proofs.YtngfnokbdcjoeaaGreatDoor
end
