/- The law behind: one part of its proof (joined by program out of my own texts). No condition. -/
import Derived.Test.YticokfpaoiekgaaGreatDoorFdrAL
section
namespace Go.Shp
open Go.Lex
mutual
def refSize : Shape → Nat → Nat
 | .mk _ _ _ _ ps, m => refSizes ps m 1
def refSizes : List Shape → Nat → Nat → Nat
 | [], _, n => n
 | s :: r, m, n => if n ≤ m then refSizes r m (n + refSize s (m - n)) else n
end
mutual
theorem refSize_spec : ∀ (s : Shape) (m : Nat), (size s ≤ m → refSize s m = size s) ∧ (m < size s → m < refSize s m)
 | .mk k o n ns ps, m => by
  have := refSizes_spec ps m 1
  rw [size_mk]
  unfold refSize
  exact this
theorem refSizes_spec : ∀ (l : List Shape) (m n : Nat), (n + sizes l ≤ m → refSizes l m n = n + sizes l) ∧ (m < n + sizes l → m < refSizes l m n)
 | [], m, n => by
  unfold sizes refSizes
  exact ⟨fun _ => rfl, fun h => h⟩
 | s :: r, m, n => by
  unfold sizes refSizes
  have h1 := refSize_spec s (m - n)
  have hp := size_pos s
  by_cases h : n ≤ m
  ·rw [if_pos h]
   have h2 := refSizes_spec r m (n + refSize s (m - n))
   constructor
   ·intro hs
    rw [h1.1 (by omega)] at h2 ⊢
    rw [h2.1 (by omega)]
    omega
   ·intro hs
    by_cases h3 : size s ≤ m - n
    ·rw [h1.1 h3] at h2 ⊢
     exact h2.2 (by omega)
    ·have := h1.2 (by omega)
     refine h2.2 (by omega)
  ·rw [if_neg h]
   exact ⟨fun hs => by omega, fun hs => by omega⟩
end
mutual
theorem refSize_le : ∀ (s : Shape) (m : Nat), refSize s m ≤ m + 1 ∧ 1 ≤ refSize s m
 | .mk k o n ns ps, m => by
  unfold refSize
  exact refSizes_le ps m 1 (by omega) (Nat.le_refl _)
theorem refSizes_le : ∀ (l : List Shape) (m n : Nat), n ≤ m + 1 → 1 ≤ n → refSizes l m n ≤ m + 1 ∧ 1 ≤ refSizes l m n
 | [], m, n, h, h1 => by unfold refSizes; exact ⟨h, h1⟩
 | s :: r, m, n, h, h1 => by
  unfold refSizes
  split
  ·have := refSize_le s (m - n)
   exact refSizes_le r m _ (by omega) (by omega)
  ·exact ⟨h, h1⟩
end
theorem allFits_mem : ∀ {l : List Shape} {s : Shape}, allFits l = true → s ∈ l → allFit s = true
 | x :: r, s, h, hs => by
  unfold allFits at h
  rw [Bool.and_eq_true] at h
  rcases List.mem_cons.1 hs with rfl | hs
  ·exact h.1
  ·exact allFits_mem h.2 hs
theorem allFit_parts {k : Int} {o n : B} {ns : List B} {ps : List Shape} (h : allFit (.mk k o n ns ps) = true) : fits (.mk k o n ns ps) = true ∧ ∀ s ∈ ps, allFit s = true := by
 unfold allFit at h
 rw [Bool.and_eq_true] at h
 exact ⟨h.1, fun s hs => allFits_mem h.2 hs⟩
theorem check_ok {s : Shape} : check s = 0 ↔ size s ≤ 400 ∧ deep s ≤ 40 ∧ allFit s = true := by
 unfold check
 by_cases h1 : 400 < size s
 ·rw [if_pos h1]; simp; omega
 rw [if_neg h1]
 by_cases h2 : 40 < deep s
 ·rw [if_pos h2]; simp; omega
 rw [if_neg h2]
 cases h3 : allFit s with
 | true => simp; omega
 | false => simp
theorem withinF_iff {f : Shape → Shape → Bool} {os : List B} {qs : List Shape} : ∀ {ns : List B} {ps : List Shape}, withinF f ns ps os qs = true ↔ ∀ (i : Nat) (n : B) (p : Shape), ns[i]? = some n → ps[i]? = some p → ∃ q, find os qs n = some q ∧ f p q = true
 | [], ps => by
  refine ⟨fun _ i n p h => by simp at h, fun _ => by simp [withinF]⟩
 | n :: ns, [] => by
  refine ⟨fun _ i n p _ h => by simp at h, fun _ => by simp [withinF]⟩
 | n :: ns, p :: ps => by
  unfold withinF
  rw [Bool.and_eq_true, withinF_iff]
  constructor
  ·rintro ⟨h1, h2⟩ i m q hn hp
   cases i with
   | zero =>
    simp only [List.getElem?_cons_zero, Option.some.injEq] at hn hp
    subst hn hp
    cases hf : find os qs n with
    | none => rw [hf] at h1; cases h1
    | some x => rw [hf] at h1; exact ⟨x, rfl, h1⟩
   | succ i => exact h2 i m q (by simpa using hn) (by simpa using hp)
  ·intro h
   refine ⟨?_, fun i m q hn hp => h (i + 1) m q (by simpa using hn) (by simpa using hp)⟩
   obtain ⟨x, hx, hfx⟩ := h 0 n p rfl rfl
   rw [hx]
   exact hfx
theorem find_iff : ∀ {ns : List B} {ps : List Shape} {n : B} {p : Shape}, ns.Nodup → (find ns ps n = some p ↔ ∃ i : Nat, ns[i]? = some n ∧ ps[i]? = some p)
 | [], ps, n, p, _ => by simp [find]
 | x :: ns, [], n, p, _ => by simp [find]
 | x :: ns, q :: ps, n, p, h => by
  rw [List.nodup_cons] at h
  unfold find
  by_cases hx : x = n
  ·subst hx
   rw [if_pos rfl]
   constructor
   ·intro e
    cases e
    exact ⟨0, rfl, rfl⟩
   ·rintro ⟨i, h1, h2⟩
    cases i with
    | zero => simpa using h2
    | succ i => exact absurd (List.mem_of_getElem? (by simpa using h1)) h.1
  ·rw [if_neg hx, find_iff h.2]
   constructor
   ·rintro ⟨i, h1, h2⟩
    exact ⟨i + 1, by simpa using h1, by simpa using h2⟩
   ·rintro ⟨i, h1, h2⟩
    cases i with
    | zero => simp only [List.getElem?_cons_zero, Option.some.injEq] at h1; exact absurd h1 hx
    | succ i => exact ⟨i, by simpa using h1, by simpa using h2⟩
end Go.Shp
end
section
namespace Go.Shp
open Go.Lex Go.Lib
theorem u8lt (a b : UInt8) : a < b ↔ a.toNat < b.toNat := UInt8.lt_iff_toNat_lt
theorem cmp_self : ∀ a : B, compareBytes a a = 0
 | [] => rfl
 | a :: r => by
  unfold compareBytes
  rw [if_neg (by rw [u8lt]; omega), if_neg (by rw [u8lt]; omega)]
  exact cmp_self r
theorem cmp_neg : ∀ a b : B, compareBytes b a = -compareBytes a b
 | [], [] => rfl
 | [], _ :: _ => rfl
 | _ :: _, [] => rfl
 | a :: r, b :: t => by
  unfold compareBytes
  by_cases h1 : a < b
  ·have h2 : ¬ b < a := by rw [u8lt] at *; omega
   rw [if_pos h1, if_neg h2, if_pos h1]
   rfl
  ·rw [if_neg h1]
   by_cases h2 : b < a
   ·rw [if_pos h2, if_pos h2, if_neg h1]
   ·rw [if_neg h2, if_neg h2, if_neg h1]
    exact cmp_neg r t
theorem cmp_val : ∀ a b : B, compareBytes a b = -1 ∨ compareBytes a b = 0 ∨ compareBytes a b = 1
 | [], [] => .inr (.inl rfl)
 | [], _ :: _ => .inl rfl
 | _ :: _, [] => .inr (.inr rfl)
 | a :: r, b :: t => by
  unfold compareBytes
  split
  ·exact .inl rfl
  split
  ·exact .inr (.inr rfl)
  ·exact cmp_val r t
theorem cmp_zero : ∀ {a b : B}, compareBytes a b = 0 → a = b
 | [], [], _ => rfl
 | [], _ :: _, h => by simp [compareBytes] at h
 | _ :: _, [], h => by simp [compareBytes] at h
 | a :: r, b :: t, h => by
  unfold compareBytes at h
  split at h
  ·simp at h
  split at h
  ·simp at h
  ·rename_i h1 h2
   have : a = b := by
    rw [u8lt] at h1 h2
    exact UInt8.toNat_inj.1 (by omega)
   rw [this, cmp_zero h]
theorem cmp_trans : ∀ {a b c : B}, compareBytes a b < 0 → compareBytes b c < 0 → compareBytes a c < 0
 | [], [], _, h, _ => by simp [compareBytes] at h
 | _ :: _, [], _, h, _ => by simp [compareBytes] at h
 | _, _ :: _, [], _, h => by simp [compareBytes] at h
 | [], _ :: _, _ :: _, _, _ => by simp [compareBytes]
 | a :: r, b :: t, c :: u, h1, h2 => by
  unfold compareBytes at h1 h2 ⊢
  by_cases e1 : a < b
  ·by_cases e2 : b < c
   ·rw [if_pos (by rw [u8lt] at *; omega)]; decide
   ·rw [if_neg e2] at h2
    by_cases e3 : c < b
    ·rw [if_pos e3] at h2; simp at h2
    ·rw [if_pos (by rw [u8lt] at *; omega)]; decide
  ·rw [if_neg e1] at h1
   by_cases e3 : b < a
   ·rw [if_pos e3] at h1; simp at h1
   ·rw [if_neg e3] at h1
    by_cases e2 : b < c
    ·rw [if_pos (by rw [u8lt] at *; omega)]; decide
    ·rw [if_neg e2] at h2
     by_cases e4 : c < b
     ·rw [if_pos e4] at h2; simp at h2
     ·rw [if_neg e4] at h2
      rw [if_neg (by rw [u8lt] at *; omega), if_neg (by rw [u8lt] at *; omega)]
      exact cmp_trans h1 h2
theorem ltB_trans {a b c : B} (h1 : ltB a b = true) (h2 : ltB b c = true) : ltB a c = true := decide_eq_true (cmp_trans (of_decide_eq_true h1) (of_decide_eq_true h2))
theorem ltB_irr (a : B) : ltB a a = false := decide_eq_false (by rw [cmp_self]; omega)
theorem ltB_tri {a b : B} (h : a ≠ b) (h1 : ltB a b = false) : ltB b a = true := by
 have h1 := of_decide_eq_false h1
 refine decide_eq_true ?_
 rw [cmp_neg]
 have := cmp_val a b
 have h0 : compareBytes a b ≠ 0 := fun e => h (cmp_zero e)
 omega
def Up (l : List (B × Shape)) : Prop := l.Pairwise fun x y => ltB x.1 y.1 = true
theorem insertP_mem {n : B} {p : Shape} : ∀ {l : List (B × Shape)} {x : B × Shape}, x ∈ insertP n p l ↔ x = (n, p) ∨ x ∈ l
 | [], x => by simp [insertP]
 | (m, q) :: r, x => by
  unfold insertP
  split
  ·rw [List.mem_cons, insertP_mem, List.mem_cons]
   constructor
   ·rintro (h | h | h)
    ·exact .inr (.inl h)
    ·exact .inl h
    ·exact .inr (.inr h)
   ·rintro (h | h | h)
    ·exact .inr (.inl h)
    ·exact .inl h
    ·exact .inr (.inr h)
  ·rw [List.mem_cons, List.mem_cons]
theorem insertP_perm (n : B) (p : Shape) : ∀ l : List (B × Shape), (insertP n p l).Perm ((n, p) :: l)
 | [] => List.Perm.refl _
 | (m, q) :: r => by
  unfold insertP
  split
  ·exact ((insertP_perm n p r).cons _).trans (List.Perm.swap _ _ _)
  ·exact List.Perm.refl _
theorem sortP_perm : ∀ l : List (B × Shape), (sortP l).Perm l
 | [] => List.Perm.refl _
 | (n, p) :: r => by
  unfold sortP
  exact (insertP_perm n p _).trans ((sortP_perm r).cons _)
theorem insertP_up {n : B} {p : Shape} : ∀ {l : List (B × Shape)}, Up l → (∀ x ∈ l, x.1 ≠ n) → Up (insertP n p l)
 | [], _, _ => List.pairwise_singleton _ _
 | (m, q) :: r, h, hn => by
  unfold Up at h ⊢
  rw [List.pairwise_cons] at h
  unfold insertP
  split
  ·rename_i hlt
   rw [List.pairwise_cons]
   refine ⟨fun x hx => ?_, insertP_up h.2 fun x hx => hn x (List.mem_cons_of_mem _ hx)⟩
   rcases insertP_mem.1 hx with rfl | hx
   ·exact hlt
   ·exact h.1 x hx
  ·rename_i hlt
   have hlt : ltB m n = false := by simpa using hlt
   have hnm := ltB_tri (hn _ List.mem_cons_self) hlt
   rw [List.pairwise_cons, List.pairwise_cons]
   refine ⟨fun x hx => ?_, h.1, h.2⟩
   rcases List.mem_cons.1 hx with rfl | hx
   ·exact hnm
   ·exact ltB_trans hnm (h.1 x hx)
theorem sortP_up : ∀ {l : List (B × Shape)}, (l.map (·.1)).Nodup → Up (sortP l)
 | [], _ => List.Pairwise.nil
 | (n, p) :: r, h => by
  rw [List.map_cons, List.nodup_cons] at h
  unfold sortP
  refine insertP_up (sortP_up h.2) fun x hx e => h.1 ?_
  have := (sortP_perm r).mem_iff.1 hx
  exact List.mem_map.2 ⟨x, this, e⟩
theorem up_unique : ∀ {l m : List (B × Shape)}, Up l → Up m → l.Perm m → l = m
 | [], m, _, _, h => (List.nil_perm.1 h).symm
 | x :: l, [], _, _, h => by have := h.length_eq; simp at this
 | x :: l, y :: m, hl, hm, h => by
  unfold Up at hl hm
  rw [List.pairwise_cons] at hl hm
  have hxy : x = y := by
   have hx : x ∈ y :: m := h.mem_iff.1 List.mem_cons_self
   have hy : y ∈ x :: l := h.mem_iff.2 List.mem_cons_self
   rcases List.mem_cons.1 hx with e | hx
   ·exact e
   rcases List.mem_cons.1 hy with e | hy
   ·exact e.symm
   have h1 := hl.1 y hy
   have h2 := hm.1 x hx
   have := ltB_trans h1 h2
   rw [ltB_irr] at this
   cases this
  subst hxy
  rw [up_unique hl.2 hm.2 (List.Perm.cons_inv h)]
theorem up_sortP {l m : List (B × Shape)} (hn : (l.map (·.1)).Nodup) (hm : Up m) (h : m.Perm l) : m = sortP l := up_unique hm (sortP_up hn) (h.trans (sortP_perm l).symm)
end Go.Shp
end
section
namespace Go.Shp
open Go.Lex
theorem fits_bare {k : Int} {o n : B} {ns : List B} {ps : List Shape} (h : fits (.mk k o n ns ps) = true) (h9 : k ≠ 9) (h10 : k ≠ 10) : o = [] ∧ n = [] := by
 unfold fits at h
 simp only [] at h
 rw [if_neg (c := k = 9) h9, if_neg (c := k = 10) h10] at h
 repeat' split at h
 all_goals first | (cases h; done) | skip
 all_goals
  simp only [Bool.and_eq_true, List.isEmpty_iff] at h
  first
   | exact ⟨h.1.1.1, h.1.1.2⟩
   | exact ⟨h.1.1, h.1.2⟩
theorem fits_named {k : Int} {o n : B} {ns : List B} {ps : List Shape} (h : fits (.mk k o n ns ps) = true) (hk : k = 6 ∨ k = 7) : ns.length = ps.length ∧ ns.Nodup := by
 unfold fits at h
 simp only [] at h
 rw [if_neg (by omega), if_neg (by omega), if_pos hk] at h
 unfold namedOk at h
 simp only [Bool.and_eq_true, decide_eq_true_eq] at h
 exact ⟨h.2.1.1, h.2.2⟩
theorem fits_leaf {k : Int} {o n : B} {ns : List B} {ps : List Shape} (h : fits (.mk k o n ns ps) = true) (hk : k ≠ 5 ∧ k ≠ 6 ∧ k ≠ 7 ∧ k ≠ 8) : ps = [] ∧ ns = [] := by
 unfold fits at h
 simp only [] at h
 rw [if_neg (c := k = 5) hk.1, if_neg (c := k = 6 ∨ k = 7) (by omega), if_neg (c := k = 8) hk.2.2.2] at h
 repeat' split at h
 all_goals first | (cases h; done) | skip
 all_goals
  simp only [Bool.and_eq_true, List.isEmpty_iff] at h
  exact ⟨h.2, h.1.2⟩
theorem funAll_iff {f : Shape → Shape → Bool} : ∀ {ps qs : List Shape}, funAll f ps qs = true ↔ ps.length = qs.length ∧ ∀ (i : Nat) (p q : Shape), ps[i]? = some p → qs[i]? = some q → if i + 1 = ps.length then f p q = true else f q p = true
 | [], [] => by simp [funAll]
 | [], _ :: _ => by simp [funAll]
 | [x], [] => by simp [funAll]
 | x :: y :: r, [] => by simp [funAll]
 | [x], [y] => by
  unfold funAll
  constructor
  ·intro h
   refine ⟨rfl, fun i p q hp hq => ?_⟩
   cases i with
   | zero =>
    simp only [List.getElem?_cons_zero, Option.some.injEq] at hp hq
    subst hp hq
    exact h
   | succ i => simp at hp
  ·rintro ⟨_, h⟩
   exact h 0 x y rfl rfl
 | [x], y :: z :: t => by simp [funAll]
 | x :: y :: r, [z] => by
  have : funAll f (x :: y :: r) [z] = (f z x && funAll f (y :: r) []) := by conv => lhs; unfold funAll
  rw [this]
  cases r <;> simp [funAll]
 | x :: y :: r, z :: u :: t => by
  have e : funAll f (x :: y :: r) (z :: u :: t) = (f z x && funAll f (y :: r) (u :: t)) := by conv => lhs; unfold funAll
  rw [e, Bool.and_eq_true, funAll_iff]
  constructor
  ·rintro ⟨h1, h2, h3⟩
   refine ⟨by simpa using h2, fun i p q hp hq => ?_⟩
   cases i with
   | zero =>
    simp only [List.getElem?_cons_zero, Option.some.injEq] at hp hq
    subst hp hq
    rw [if_neg (by simp)]
    exact h1
   | succ i =>
    have := h3 i p q (by simpa using hp) (by simpa using hq)
    simp only [List.length_cons] at this ⊢
    by_cases hi : i + 1 = r.length + 1
    ·rw [if_pos hi] at this; rw [if_pos (by omega)]; exact this
    ·rw [if_neg hi] at this; rw [if_neg (by omega)]; exact this
  ·rintro ⟨h1, h2⟩
   refine ⟨?_, by simpa using h1, fun i p q hp hq => ?_⟩
   ·have := h2 0 x z rfl rfl
    rw [if_neg (by simp)] at this
    exact this
   ·have := h2 (i + 1) p q (by simpa using hp) (by simpa using hq)
    simp only [List.length_cons] at this ⊢
    by_cases hi : i + 1 = r.length + 1
    ·rw [if_pos (by omega)] at this; rw [if_pos hi]; exact this
    ·rw [if_neg (by omega)] at this; rw [if_neg hi]; exact this
theorem funAll_trans {f g h : Shape → Shape → Bool} {ps qs rs : List Shape} (h1 : funAll f ps qs = true) (h2 : funAll g qs rs = true)
  (up : ∀ p ∈ ps, ∀ q ∈ qs, ∀ r ∈ rs, f p q = true → g q r = true → h p r = true) (down : ∀ p ∈ ps, ∀ q ∈ qs, ∀ r ∈ rs, f q p = true → g r q = true → h r p = true) : funAll h ps rs = true := by
 rw [funAll_iff] at h1 h2 ⊢
 refine ⟨h1.1.trans h2.1, fun i p r hp hr => ?_⟩
 have hi := (List.getElem?_eq_some_iff.1 hp).1
 have hq : qs[i]? = some _ := List.getElem?_eq_getElem (show i < qs.length by omega)
 have a := h1.2 i p _ hp hq
 have b := h2.2 i _ r hq hr
 have mp := List.mem_of_getElem? hp
 have mq := List.mem_of_getElem? hq
 have mr := List.mem_of_getElem? hr
 by_cases hl : i + 1 = ps.length
 ·rw [if_pos hl] at a ⊢
  rw [if_pos (by omega)] at b
  exact up p mp _ mq r mr a b
 ·rw [if_neg hl] at a ⊢
  rw [if_neg (by omega)] at b
  exact down p mp _ mq r mr a b
theorem within_trans {f g h : Shape → Shape → Bool} {na nb nc : List B} {pa pb pc : List Shape} (hb : nb.Nodup) (h1 : withinF f na pa nb pb = true) (h2 : withinF g nb pb nc pc = true)
  (up : ∀ p ∈ pa, ∀ q ∈ pb, ∀ r ∈ pc, f p q = true → g q r = true → h p r = true) : withinF h na pa nc pc = true := by
 rw [withinF_iff] at h1 h2 ⊢
 intro i n p hn hp
 obtain ⟨q, hq, hf⟩ := h1 i n p hn hp
 obtain ⟨j, hj1, hj2⟩ := (find_iff hb).1 hq
 obtain ⟨r, hr, hg⟩ := h2 j n q hj1 hj2
 exact ⟨r, hr, up p (List.mem_of_getElem? hp) q (List.mem_of_getElem? hj2) r (find_mem hr) hf hg⟩
theorem below_trans : ∀ (f : Nat) (a b c : Shape), allFit a = true → allFit b = true → allFit c = true → belowF f a b = true → belowF f b c = true → belowF f a c = true
 | 0, _, _, _, _, _, _, h, _ => by simp [belowF] at h
 | f + 1, .mk ka oa na nsa psa, .mk kb ob nb nsb psb, .mk kc oc nc nsc psc, ha, hb, hc, h1, h2 => by
  obtain ⟨fb, pb⟩ := allFit_parts hb
  have pa := (allFit_parts ha).2
  have pc := (allFit_parts hc).2
  unfold belowF at h1 h2 ⊢
  by_cases e1 : ka = kb
  ·by_cases e2 : kb = kc
   ·subst e1 e2
    simp only [ne_eq, not_true_eq_false, if_false] at h1 h2 ⊢
    by_cases h9 : ka = 9 ∨ ka = 10
    ·rw [if_pos h9] at h1 h2 ⊢
     simp only [Bool.and_eq_true, beq_iff_eq] at h1 h2 ⊢
     exact ⟨h1.1.trans h2.1, h1.2.trans h2.2⟩
    rw [if_neg h9] at h1 h2 ⊢
    by_cases h6 : ka = 6
    ·rw [if_pos h6] at h1 h2 ⊢
     exact within_trans (fits_named fb (.inl h6)).2 h2 h1 fun r hr q hq p hp x y => below_trans f p q r (pa p hp) (pb q hq) (pc r hr) y x
    rw [if_neg h6] at h1 h2 ⊢
    by_cases h7 : ka = 7
    ·rw [if_pos h7] at h1 h2 ⊢
     exact within_trans (fits_named fb (.inr h7)).2 h1 h2 fun p hp q hq r hr x y => below_trans f p q r (pa p hp) (pb q hq) (pc r hr) x y
    rw [if_neg h7] at h1 h2 ⊢
    exact funAll_trans h1 h2 (fun p hp q hq r hr x y => below_trans f p q r (pa p hp) (pb q hq) (pc r hr) x y) fun p hp q hq r hr x y => below_trans f r q p (pc r hr) (pb q hq) (pa p hp) y x
   ·rw [if_pos e2] at h2; cases h2
  ·rw [if_pos e1] at h1; cases h1
theorem near_below : ∀ (f : Nat), (∀ (a b c : Shape), allFit a = true → allFit b = true → allFit c = true → nearF f a b = true → belowF f b c = true → nearF f a c = true) ∧
  (∀ (a b c : Shape), allFit a = true → allFit b = true → allFit c = true → belowF f a b = true → nearF f b c = true → nearF f a c = true)
 | 0 => ⟨fun _ _ _ _ _ _ h => by simp [nearF] at h, fun _ _ _ _ _ _ h => by simp [belowF] at h⟩
 | f + 1 => by
  obtain ⟨ih1, ih2⟩ := near_below f
  constructor
  ·rintro ⟨ka, oa, na, nsa, psa⟩ ⟨kb, ob, nb, nsb, psb⟩ ⟨kc, oc, nc, nsc, psc⟩ ha hb hc h1 h2
   obtain ⟨fb, pb⟩ := allFit_parts hb
   obtain ⟨fc, pc⟩ := allFit_parts hc
   have pa := (allFit_parts ha).2
   unfold nearF at h1 ⊢
   unfold belowF at h2
   by_cases e2 : kb = kc
   rotate_left
   ·rw [if_pos e2] at h2; cases h2
   subst e2
   simp only [ne_eq, not_true_eq_false, if_false] at h2
   by_cases h4 : ka = 4 ∨ kb = 4
   ·rw [if_pos h4]
   rw [if_neg h4] at h1 ⊢
   by_cases hd : ka ≠ kb ∨ oa ≠ ob ∨ na ≠ nb
   ·rw [if_pos hd] at h1; cases h1
   rw [if_neg hd] at h1
   simp only [not_or, Decidable.not_not, ne_eq] at hd
   obtain ⟨rfl, rfl, rfl⟩ := hd
   by_cases h9 : ka = 9 ∨ ka = 10
   ·rw [if_pos h9] at h2
    simp only [Bool.and_eq_true, beq_iff_eq] at h2
    obtain ⟨rfl, rfl⟩ := h2
    have lb := fits_leaf fb (by omega)
    have lc := fits_leaf fc (by omega)
    rw [if_neg (by simp), if_neg (by omega), if_neg (by omega)] 
    rw [if_neg (by omega), if_neg (by omega)] at h1
    rw [lc.1, ← lb.1]
    exact h1
   rw [if_neg h9] at h2
   obtain ⟨rfl, rfl⟩ := fits_bare fb (by omega) (by omega)
   obtain ⟨rfl, rfl⟩ := fits_bare fc (by omega) (by omega)
   rw [if_neg (c := ka ≠ ka ∨ _) (by simp)]
   by_cases h6 : ka = 6
   ·rw [if_pos h6] at h1 h2 ⊢
    exact within_trans (fits_named fb (.inl h6)).2 h2 h1 fun r hr q hq p hp x y => ih1 p q r (pa p hp) (pb q hq) (pc r hr) y x
   rw [if_neg h6] at h1 h2 ⊢
   by_cases h7 : ka = 7
   ·rw [if_pos h7] at h1 h2 ⊢
    exact within_trans (fits_named fb (.inr h7)).2 h1 h2 fun p hp q hq r hr x y => ih1 p q r (pa p hp) (pb q hq) (pc r hr) x y
   rw [if_neg h7] at h1 h2 ⊢
   exact funAll_trans h1 h2 (fun p hp q hq r hr x y => ih1 p q r (pa p hp) (pb q hq) (pc r hr) x y) fun p hp q hq r hr x y => ih2 r q p (pc r hr) (pb q hq) (pa p hp) y x
  ·rintro ⟨ka, oa, na, nsa, psa⟩ ⟨kb, ob, nb, nsb, psb⟩ ⟨kc, oc, nc, nsc, psc⟩ ha hb hc h1 h2
   obtain ⟨fa, pa⟩ := allFit_parts ha
   obtain ⟨fb, pb⟩ := allFit_parts hb
   have pc := (allFit_parts hc).2
   unfold nearF at h2 ⊢
   unfold belowF at h1
   by_cases e2 : ka = kb
   rotate_left
   ·rw [if_pos e2] at h1; cases h1
   subst e2
   simp only [ne_eq, not_true_eq_false, if_false] at h1
   by_cases h4 : ka = 4 ∨ kc = 4
   ·rw [if_pos h4]
   rw [if_neg h4] at h2 ⊢
   by_cases hd : ka ≠ kc ∨ ob ≠ oc ∨ nb ≠ nc
   ·rw [if_pos hd] at h2; cases h2
   rw [if_neg hd] at h2
   simp only [not_or, Decidable.not_not, ne_eq] at hd
   obtain ⟨rfl, rfl, rfl⟩ := hd
   by_cases h9 : ka = 9 ∨ ka = 10
   ·rw [if_pos h9] at h1
    simp only [Bool.and_eq_true, beq_iff_eq] at h1
    obtain ⟨rfl, rfl⟩ := h1
    have la := fits_leaf fa (by omega)
    have lb := fits_leaf fb (by omega)
    rw [if_neg (by simp), if_neg (by omega), if_neg (by omega)]
    rw [if_neg (by omega), if_neg (by omega)] at h2
    rw [la.1, ← lb.1]
    exact h2
   rw [if_neg h9] at h1
   obtain ⟨rfl, rfl⟩ := fits_bare fa (by omega) (by omega)
   obtain ⟨rfl, rfl⟩ := fits_bare fb (by omega) (by omega)
   rw [if_neg (c := ka ≠ ka ∨ _) (by simp)]
   by_cases h6 : ka = 6
   ·rw [if_pos h6] at h1 h2 ⊢
    exact within_trans (fits_named fb (.inl h6)).2 h2 h1 fun r hr q hq p hp x y => ih2 p q r (pa p hp) (pb q hq) (pc r hr) y x
   rw [if_neg h6] at h1 h2 ⊢
   by_cases h7 : ka = 7
   ·rw [if_pos h7] at h1 h2 ⊢
    exact within_trans (fits_named fb (.inr h7)).2 h1 h2 fun p hp q hq r hr x y => ih2 p q r (pa p hp) (pb q hq) (pc r hr) x y
   rw [if_neg h7] at h1 h2 ⊢
   exact funAll_trans h1 h2 (fun p hp q hq r hr x y => ih2 p q r (pa p hp) (pb q hq) (pc r hr) x y) fun p hp q hq r hr x y => ih1 r q p (pc r hr) (pb q hq) (pa p hp) y x
end Go.Shp
end
section
namespace Go.Shp
open Go.Lex
theorem sortL_map : ∀ l : List Shape, sortL l = l.map sortS
 | [] => by rw [sortL]; rfl
 | s :: r => by rw [sortL, sortL_map r]; rfl
theorem sortS_nil (k : Int) (o n : B) (ps : List Shape) : sortS (.mk k o n [] ps) = .mk k o n [] (ps.map sortS) := by rw [sortS, if_pos rfl, sortL_map]
def pairs (ns : List B) (ps : List Shape) : List (B × Shape) := sortP (ns.zip (ps.map sortS))
theorem sortS_cons {k : Int} {o n : B} {ns : List B} {ps : List Shape} (h : ns ≠ []) : sortS (.mk k o n ns ps) = .mk k o n ((pairs ns ps).map (·.1)) ((pairs ns ps).map (·.2)) := by rw [sortS, if_neg h, sortL_map]; rfl
theorem zip_fst {α β : Type} : ∀ {l : List α} {m : List β}, l.length = m.length → (l.zip m).map (·.1) = l
 | [], [], _ => rfl
 | [], _ :: _, h => by simp at h
 | _ :: _, [], h => by simp at h
 | a :: l, b :: m, h => by
  rw [List.zip_cons_cons, List.map_cons, zip_fst (by simpa using h)]
theorem pairs_names {ns : List B} {ps : List Shape} (h : ns.length = ps.length) : ((pairs ns ps).map (·.1)).Perm ns := by
 have := (sortP_perm (ns.zip (ps.map sortS))).map (·.1)
 rw [zip_fst (by simpa using h)] at this
 exact this
theorem pairs_len {ns : List B} {ps : List Shape} (h : ns.length = ps.length) : (pairs ns ps).length = ps.length := by
 have := (sortP_perm (ns.zip (ps.map sortS))).length_eq
 unfold pairs
 rw [this, List.length_zip, List.length_map]
 omega
theorem pairs_mem {ns : List B} {ps : List Shape} {n : B} {q : Shape} : (n, q) ∈ pairs ns ps ↔ ∃ (i : Nat) (p : Shape), ns[i]? = some n ∧ ps[i]? = some p ∧ q = sortS p := by
 unfold pairs
 rw [(sortP_perm _).mem_iff, List.mem_iff_getElem?]
 constructor
 ·rintro ⟨i, hi⟩
  rw [List.getElem?_zip_eq_some] at hi
  obtain ⟨h1, h2⟩ := hi
  rw [List.getElem?_map] at h2
  obtain ⟨p, hp, e⟩ := Option.map_eq_some_iff.1 h2
  exact ⟨i, p, h1, hp, e.symm⟩
 ·rintro ⟨i, p, h1, h2, e⟩
  refine ⟨i, ?_⟩
  rw [List.getElem?_zip_eq_some, List.getElem?_map, h2]
  exact ⟨h1, by rw [e]; rfl⟩
theorem pair_at {z : List (B × Shape)} {j : Nat} {n : B} {q : Shape} : ((z.map (·.1))[j]? = some n ∧ (z.map (·.2))[j]? = some q) ↔ z[j]? = some (n, q) := by
 rw [List.getElem?_map, List.getElem?_map]
 cases h : z[j]? with
 | none => simp
 | some x =>
  obtain ⟨a, b⟩ := x
  simp
theorem deeps_le {l : List Shape} {d : Nat} (h : ∀ s ∈ l, deep s ≤ d) : deeps l ≤ d := by
 induction l with
 | nil => exact Nat.zero_le _
 | cons s r ih =>
  rw [deeps]
  exact Nat.max_le.2 ⟨h s List.mem_cons_self, ih fun x hx => h x (List.mem_cons_of_mem _ hx)⟩
theorem allFits_of {l : List Shape} (h : ∀ s ∈ l, allFit s = true) : allFits l = true := by
 induction l with
 | nil => rw [allFits]
 | cons s r ih =>
  rw [allFits, h s List.mem_cons_self, ih fun x hx => h x (List.mem_cons_of_mem _ hx)]
  rfl
theorem sort_facts : ∀ (d : Nat) (s : Shape), deep s ≤ d → allFit s = true → allFit (sortS s) = true ∧ deep (sortS s) ≤ deep s ∧ ∀ f, deep s ≤ f → belowF f s (sortS s) = true ∧ belowF f (sortS s) s = true
 | 0, s, h, _ => by have := deep_pos s; omega
 | d + 1, .mk k o n ns ps, hd, ha => by
  rw [deep_mk] at hd
  obtain ⟨hf, hp⟩ := allFit_parts ha
  have ih : ∀ p ∈ ps, allFit (sortS p) = true ∧ deep (sortS p) ≤ deep p ∧ ∀ f, deep p ≤ f → belowF f p (sortS p) = true ∧ belowF f (sortS p) p = true := fun p hm => sort_facts d p (by have := deep_mem hm; omega) (hp p hm)
  by_cases hns : ns = []
  ·subst hns
   rw [sortS_nil]
   refine ⟨?_, ?_, ?_⟩
   ·rw [allFit, allFits_of fun s hs => ?_, Bool.and_true]
    ·unfold fits at hf ⊢
     simpa using hf
    ·obtain ⟨p, hm, rfl⟩ := List.mem_map.1 hs
     exact (ih p hm).1
   ·rw [deep_mk, deep_mk]
    have := deeps_le (l := ps.map sortS) (d := deeps ps) fun s hs => by
     obtain ⟨p, hm, rfl⟩ := List.mem_map.1 hs
     exact Nat.le_trans (ih p hm).2.1 (deep_mem hm)
    omega
   ·intro f hfu
    rw [deep_mk] at hfu
    obtain ⟨g, rfl⟩ : ∃ g, f = g + 1 := ⟨f - 1, by omega⟩
    have key : ∀ p ∈ ps, belowF g p (sortS p) = true ∧ belowF g (sortS p) p = true := fun p hm => (ih p hm).2.2 g (by have := deep_mem hm; omega)
    have fa : funAll (belowF g) ps (ps.map sortS) = true ∧ funAll (belowF g) (ps.map sortS) ps = true := by
     constructor
     ·rw [funAll_iff]
      refine ⟨by simp, fun i p q h1 h2 => ?_⟩
      rw [List.getElem?_map, h1] at h2
      cases h2
      have := key p (List.mem_of_getElem? h1)
      split
      ·exact this.1
      ·exact this.2
     ·rw [funAll_iff]
      refine ⟨by simp, fun i q p h2 h1 => ?_⟩
      rw [List.getElem?_map, h1] at h2
      cases h2
      have := key p (List.mem_of_getElem? h1)
      split
      ·exact this.2
      ·exact this.1
    constructor
    ·unfold belowF
     rw [if_neg (by simp)]
     by_cases h9 : k = 9 ∨ k = 10
     ·rw [if_pos h9]; simp
     rw [if_neg h9]
     by_cases h6 : k = 6
     ·rw [if_pos h6]; simp [withinF]
     rw [if_neg h6]
     by_cases h7 : k = 7
     ·rw [if_pos h7]; simp [withinF]
     rw [if_neg h7]
     exact fa.1
    ·unfold belowF
     rw [if_neg (by simp)]
     by_cases h9 : k = 9 ∨ k = 10
     ·rw [if_pos h9]; simp
     rw [if_neg h9]
     by_cases h6 : k = 6
     ·rw [if_pos h6]; simp [withinF]
     rw [if_neg h6]
     by_cases h7 : k = 7
     ·rw [if_pos h7]; simp [withinF]
     rw [if_neg h7]
     exact fa.2
  ·have hk : k = 6 ∨ k = 7 := by
    by_cases h : k = 6 ∨ k = 7
    ·exact h
    ·exfalso
     unfold fits at hf
     simp only [] at hf
     rw [if_neg (c := k = 6 ∨ k = 7) h] at hf
     have : ns.isEmpty = false := by cases ns with
      | nil => exact absurd rfl hns
      | cons _ _ => rfl
     rw [this] at hf
     repeat' split at hf
     all_goals simp at hf
   obtain ⟨hl, hnd⟩ := fits_named hf hk
   have hpn := pairs_names (ns := ns) (ps := ps) hl
   have hlen := pairs_len (ns := ns) (ps := ps) hl
   have hnd2 : ((pairs ns ps).map (·.1)).Nodup := hpn.nodup_iff.2 hnd
   rw [sortS_cons hns]
   refine ⟨?_, ?_, ?_⟩
   ·rw [allFit, allFits_of fun s hs => ?_, Bool.and_true]
    ·unfold fits at hf ⊢
     simp only [] at hf ⊢
     rw [if_neg (by omega), if_neg (by omega), if_pos hk] at hf ⊢
     unfold namedOk at hf ⊢
     simp only [Bool.and_eq_true, decide_eq_true_eq, List.length_map] at hf ⊢
     refine ⟨hf.1, ⟨trivial, ?_⟩, hnd2⟩
     rw [List.all_eq_true] at hf ⊢
     exact fun x hx => hf.2.1.2 x (hpn.mem_iff.1 hx)
    ·obtain ⟨⟨m, q⟩, hm, rfl⟩ := List.mem_map.1 hs
     obtain ⟨i, p, _, h2, e⟩ := pairs_mem.1 hm
     show allFit q = true
     rw [e]
     exact (ih p (List.mem_of_getElem? h2)).1
   ·rw [deep_mk, deep_mk]
    have := deeps_le (l := (pairs ns ps).map (·.2)) (d := deeps ps) fun s hs => by
     obtain ⟨⟨m, q⟩, hm, rfl⟩ := List.mem_map.1 hs
     obtain ⟨i, p, _, h2, e⟩ := pairs_mem.1 hm
     show deep q ≤ _
     rw [e]
     exact Nat.le_trans (ih p (List.mem_of_getElem? h2)).2.1 (deep_mem (List.mem_of_getElem? h2))
    omega
   ·intro f hfu
    rw [deep_mk] at hfu
    obtain ⟨g, rfl⟩ : ∃ g, f = g + 1 := ⟨f - 1, by omega⟩
    have key : ∀ p ∈ ps, belowF g p (sortS p) = true ∧ belowF g (sortS p) p = true := fun p hm => (ih p hm).2.2 g (by have := deep_mem hm; omega)
    -- from the ordered ones to the others, and back
    have to' : ∀ (h : Shape → Shape → Bool), (∀ p ∈ ps, h (sortS p) p = true) → withinF h ((pairs ns ps).map (·.1)) ((pairs ns ps).map (·.2)) ns ps = true := fun h hh => by
     rw [withinF_iff]
     intro j m q h1 h2
     have hm := List.mem_of_getElem? (pair_at.1 ⟨h1, h2⟩)
     obtain ⟨i, p, h3, h4, e⟩ := pairs_mem.1 hm
     exact ⟨p, (find_iff hnd).2 ⟨i, h3, h4⟩, by rw [e]; exact hh p (List.mem_of_getElem? h4)⟩
    have fro : ∀ (h : Shape → Shape → Bool), (∀ p ∈ ps, h p (sortS p) = true) → withinF h ns ps ((pairs ns ps).map (·.1)) ((pairs ns ps).map (·.2)) = true := fun h hh => by
     rw [withinF_iff]
     intro i m p h1 h2
     have hm : (m, sortS p) ∈ pairs ns ps := pairs_mem.2 ⟨i, p, h1, h2, rfl⟩
     obtain ⟨j, hj⟩ := List.mem_iff_getElem?.1 hm
     obtain ⟨h3, h4⟩ := pair_at.2 hj
     exact ⟨sortS p, (find_iff hnd2).2 ⟨j, h3, h4⟩, hh p (List.mem_of_getElem? h2)⟩
    unfold belowF
    rcases hk with rfl | rfl
    ·simp only [ne_eq, not_true_eq_false, if_false, Int.reduceEq, or_self, if_true]
     exact ⟨to' _ fun p hm => (key p hm).1, fro _ fun p hm => (key p hm).2⟩
    ·simp only [ne_eq, not_true_eq_false, if_false, Int.reduceEq, or_self, if_true]
     exact ⟨fro _ fun p hm => (key p hm).1, to' _ fun p hm => (key p hm).2⟩
mutual
theorem eqS_eq : ∀ {a b : Shape}, eqS a b = true → a = b
 | .mk k o n ns ps, .mk k' o' n' ns' ps', h => by
  unfold eqS at h
  simp only [Bool.and_eq_true, decide_eq_true_eq, beq_iff_eq] at h
  obtain ⟨⟨⟨⟨rfl, rfl⟩, rfl⟩, rfl⟩, h⟩ := h
  rw [eqL_eq h]
theorem eqL_eq : ∀ {a b : List Shape}, eqL a b = true → a = b
 | [], [], _ => rfl
 | [], _ :: _, h => by simp [eqL] at h
 | _ :: _, [], h => by simp [eqL] at h
 | a :: r, b :: t, h => by
  unfold eqL at h
  rw [Bool.and_eq_true] at h
  rw [eqS_eq h.1, eqL_eq h.2]
end
theorem same_below {a b : Shape} (h : same a b = true) : isBelow a b = true := by
 unfold same at h
 rw [Bool.and_eq_true, Bool.and_eq_true, beq_iff_eq, beq_iff_eq] at h
 obtain ⟨⟨ha, hb⟩, he⟩ := h
 obtain ⟨_, _, fa⟩ := check_ok.1 ha
 obtain ⟨_, _, fb⟩ := check_ok.1 hb
 unfold isBelow
 rw [ha, hb]
 simp only [beq_self_eq_true, Bool.true_and]
 unfold below
 have h1 := sort_facts (deep a) a (Nat.le_refl _) fa
 have h2 := sort_facts (deep b) b (Nat.le_refl _) fb
 have e := eqS_eq he
 refine below_trans _ a (sortS a) b fa h1.1 fb (h1.2.2 _ (Nat.le_max_left _ _)).1 ?_
 rw [e]
 exact (h2.2.2 _ (Nat.le_max_right _ _)).2
mutual
def plainS : Shape → Bool
 | .mk k _ _ _ ps => decide (k ≠ 4) && plainL ps
def plainL : List Shape → Bool
 | [] => true
 | s :: r => plainS s && plainL r
end
theorem plainL_mem : ∀ {l : List Shape} {s : Shape}, plainL l = true → s ∈ l → plainS s = true
 | x :: r, s, h, hs => by
  unfold plainL at h
  rw [Bool.and_eq_true] at h
  rcases List.mem_cons.1 hs with rfl | hs
  ·exact h.1
  ·exact plainL_mem h.2 hs
theorem near_plain : ∀ (f : Nat) (a b : Shape), plainS a = true → plainS b = true → nearF f a b = true → belowF f a b = true
 | 0, _, _, _, _, h => by simp [nearF] at h
 | f + 1, .mk ka oa na nsa psa, .mk kb ob nb nsb psb, pa, pb, h => by
  unfold plainS at pa pb
  simp only [Bool.and_eq_true, decide_eq_true_eq] at pa pb
  have key : ∀ p ∈ psa, ∀ q ∈ psb, (nearF f p q = true → belowF f p q = true) ∧ (nearF f q p = true → belowF f q p = true) := fun p hp q hq =>
   ⟨near_plain f p q (plainL_mem pa.2 hp) (plainL_mem pb.2 hq), near_plain f q p (plainL_mem pb.2 hq) (plainL_mem pa.2 hp)⟩
  unfold nearF at h
  unfold belowF
  rw [if_neg (c := ka = 4 ∨ kb = 4) (by omega)] at h
  by_cases hd : ka ≠ kb ∨ oa ≠ ob ∨ na ≠ nb
  ·rw [if_pos hd] at h; cases h
  rw [if_neg hd] at h
  simp only [not_or, Decidable.not_not, ne_eq] at hd
  obtain ⟨rfl, rfl, rfl⟩ := hd
  rw [if_neg (c := ka ≠ ka) (by simp)]
  by_cases h9 : ka = 9 ∨ ka = 10
  ·rw [if_pos h9]; simp
  rw [if_neg h9]
  by_cases h6 : ka = 6
  ·rw [if_pos h6] at h ⊢
   rw [withinF_iff] at h ⊢
   intro i n q hn hq
   obtain ⟨p, h1, h2⟩ := h i n q hn hq
   exact ⟨p, h1, (key p (find_mem h1) q (List.mem_of_getElem? hq)).1 h2⟩
  rw [if_neg h6] at h ⊢
  by_cases h7 : ka = 7
  ·rw [if_pos h7] at h ⊢
   rw [withinF_iff] at h ⊢
   intro i n p hn hp
   obtain ⟨q, h1, h2⟩ := h i n p hn hp
   exact ⟨q, h1, (key p (List.mem_of_getElem? hp) q (find_mem h1)).1 h2⟩
  rw [if_neg h7] at h ⊢
  rw [funAll_iff] at h ⊢
  refine ⟨h.1, fun i p q hp hq => ?_⟩
  have := h.2 i p q hp hq
  have hk := key p (List.mem_of_getElem? hp) q (List.mem_of_getElem? hq)
  split
  ·rename_i hl; rw [if_pos hl] at this; exact hk.1 this
  ·rename_i hl; rw [if_neg hl] at this; exact hk.2 this
theorem rank_weaker {x y z : Shape} (h : isBelow y z = true) : (2 ≤ rank x y → 2 ≤ rank x z) ∧ (1 ≤ rank x y → 1 ≤ rank x z) := by
 unfold isBelow at h
 rw [Bool.and_eq_true, Bool.and_eq_true, beq_iff_eq, beq_iff_eq] at h
 obtain ⟨⟨hy, hz⟩, hb⟩ := h
 obtain ⟨_, _, fy⟩ := check_ok.1 hy
 obtain ⟨_, _, fz⟩ := check_ok.1 hz
 have two : isBelow x y = true → isBelow x z = true := fun h => by
  unfold isBelow at h ⊢
  rw [Bool.and_eq_true, Bool.and_eq_true, beq_iff_eq, beq_iff_eq] at h ⊢
  obtain ⟨⟨hx, _⟩, hxy⟩ := h
  obtain ⟨_, _, fx⟩ := check_ok.1 hx
  refine ⟨⟨hx, hz⟩, ?_⟩
  unfold below at hxy hb ⊢
  have h1 := belowF_fuel (max (deep x) (deep y)) (max (max (deep x) (deep y)) (deep z)) x y (by omega) (by omega) (by omega) (by omega)
  have h2 := belowF_fuel (max (deep y) (deep z)) (max (max (deep x) (deep y)) (deep z)) y z (by omega) (by omega) (by omega) (by omega)
  have h3 := belowF_fuel (max (deep x) (deep z)) (max (max (deep x) (deep y)) (deep z)) x z (by omega) (by omega) (by omega) (by omega)
  rw [h1] at hxy
  rw [h2] at hb
  rw [h3]
  exact below_trans _ x y z fx fy fz hxy hb
 have one : isNear x y = true → isNear x z = true := fun h => by
  unfold isNear at h ⊢
  rw [Bool.and_eq_true, Bool.and_eq_true, beq_iff_eq, beq_iff_eq] at h ⊢
  obtain ⟨⟨hx, _⟩, hxy⟩ := h
  obtain ⟨_, _, fx⟩ := check_ok.1 hx
  refine ⟨⟨hx, hz⟩, ?_⟩
  unfold near at hxy ⊢
  unfold below at hb
  have h1 := nearF_fuel (max (deep x) (deep y)) (max (max (deep x) (deep y)) (deep z)) x y (by omega) (by omega) (by omega) (by omega)
  have h2 := belowF_fuel (max (deep y) (deep z)) (max (max (deep x) (deep y)) (deep z)) y z (by omega) (by omega) (by omega) (by omega)
  have h3 := nearF_fuel (max (deep x) (deep z)) (max (max (deep x) (deep y)) (deep z)) x z (by omega) (by omega) (by omega) (by omega)
  rw [h1] at hxy
  rw [h2] at hb
  rw [h3]
  exact (near_below _).1 x y z fx fy fz hxy hb
 have r2 : 2 ≤ rank x y ↔ isBelow x y = true := by
  unfold rank
  by_cases h3 : same x y = true
  ·rw [if_pos h3]; simp [same_below h3]
  rw [if_neg h3]
  by_cases h2 : isBelow x y = true
  ·rw [if_pos h2]; simp [h2]
  ·rw [if_neg h2]
   split <;> simp [h2]
 have g2 : isBelow x z = true → 2 ≤ rank x z := fun h => by
  unfold rank
  rw [h]
  split <;> simp
 refine ⟨fun h => g2 (two (r2.1 h)), fun h => ?_⟩
 by_cases h2 : isBelow x y = true
 ·have := g2 (two h2); omega
 ·have hn : isNear x y = true := by
   unfold rank at h
   rw [if_neg (fun e => h2 (same_below e)), if_neg h2] at h
   split at h
   ·assumption
   ·omega
  unfold rank
  split
  ·omega
  split
  ·omega
  rw [if_pos (one hn)]
  omega
theorem rank_plain {x y : Shape} (px : check x = 0 ∧ plainS x = true) (py : check y = 0 ∧ plainS y = true) : rank x y ≠ 1 := by
 unfold rank
 split
 ·omega
 split
 ·omega
 split
 ·rename_i h2 h3
  exfalso
  apply h2
  unfold isNear at h3
  rw [Bool.and_eq_true, Bool.and_eq_true] at h3
  unfold isBelow
  rw [px.1, py.1]
  simp only [beq_self_eq_true, Bool.true_and]
  exact near_plain _ x y px.2 py.2 h3.2
 ·omega
end Go.Shp
end
