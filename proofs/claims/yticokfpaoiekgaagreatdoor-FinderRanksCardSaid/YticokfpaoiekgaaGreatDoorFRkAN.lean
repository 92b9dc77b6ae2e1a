/- The finder law behind FRanksCard: one part of its proof (joined by program out of my own texts). No condition. -/
import Derived.Test.YticokfpaoiekgaaGreatDoorFRkAM
section
namespace Go.Shp
open Go.Lex
theorem deep_mem : ∀ {l : List Shape} {s : Shape}, s ∈ l → deep s ≤ deeps l
  | x :: r, s, h => by
    unfold deeps
    rcases List.mem_cons.1 h with rfl | h
    · exact Nat.le_max_left _ _
    · exact Nat.le_trans (deep_mem h) (Nat.le_max_right _ _)
theorem size_mem : ∀ {l : List Shape} {s : Shape}, s ∈ l → size s ≤ sizes l
  | x :: r, s, h => by
    unfold sizes
    rcases List.mem_cons.1 h with rfl | h
    · exact Nat.le_add_right _ _
    · exact Nat.le_trans (size_mem h) (Nat.le_add_left _ _)
theorem deep_mk (k : Int) (o n : B) (ns : List B) (ps : List Shape) : deep (.mk k o n ns ps) = 1 + deeps ps := by rw [deep]
theorem size_mk (k : Int) (o n : B) (ns : List B) (ps : List Shape) : size (.mk k o n ns ps) = 1 + sizes ps := by rw [size]
theorem size_pos (s : Shape) : 1 ≤ size s := by cases s; rw [size_mk]; omega
theorem deep_pos (s : Shape) : 1 ≤ deep s := by cases s; rw [deep_mk]; omega
theorem sizes_len : ∀ l : List Shape, l.length ≤ sizes l
  | [] => Nat.le_refl _
  | s :: r => by
    have := sizes_len r
    have := size_pos s
    rw [sizes, List.length_cons]
    omega
mutual
theorem deep_size : ∀ s : Shape, deep s ≤ size s
  | .mk k o n ns ps => by
    have := deeps_sizes ps
    rw [deep_mk, size_mk]
    omega
theorem deeps_sizes : ∀ l : List Shape, deeps l ≤ sizes l
  | [] => Nat.le_refl _
  | s :: r => by
    have := deep_size s
    have := deeps_sizes r
    rw [deeps, sizes]
    omega
end
theorem find_mem : ∀ {ns : List B} {ps : List Shape} {n : B} {p : Shape}, find ns ps n = some p → p ∈ ps
  | [], _, _, _, h => by simp [find] at h
  | _ :: _, [], _, _, h => by simp [find] at h
  | x :: ns, q :: ps, n, p, h => by
    unfold find at h
    split at h
    · cases h; exact List.mem_cons_self
    · exact List.mem_cons_of_mem _ (find_mem h)
end Go.Shp
end
section
namespace Go.Lift
open Go.Shp
mutual
def ShV (w : World) (k : Int) (o n : ByteArray) (ns ps : Sl) : Shape → Prop
  | .mk k' o' n' names parts => k = k' ∧ bl o = o' ∧ bl n = n' ∧ (RdS w ns (names.map bs) ∧ names.length < 4611686018427387904 ∧ ps.n = parts.length ∧ parts.length < 4611686018427387904 ∧ o.size < 4611686018427387904 ∧ n.size < 4611686018427387904 ∧ ∀ x ∈ names, x.length < 4611686018427387904) ∧ ShL w ps.a 0 parts
def ShL (w : World) (a : Option Addr) (i : Nat) : List Shape → Prop
  | [] => True
  | s :: r => (∃ (g off : Nat) (k : Int) (o n : ByteArray) (ns ps : Sl), a = some ⟨g, off, none⟩ ∧ w.cell? ⟨g, off + i * 5, none⟩ = some (.int .i64 k) ∧ w.cell? ⟨g, off + i * 5 + 1, none⟩ = some (.string o) ∧ w.cell? ⟨g, off + i * 5 + 2, none⟩ = some (.string n) ∧
      w.cell? ⟨g, off + i * 5 + 3, none⟩ = some (.slice ns.a ns.n ns.c) ∧ w.cell? ⟨g, off + i * 5 + 4, none⟩ = some (.slice ps.a ps.n ps.c) ∧ ShV w k o n ns ps s) ∧ ShL w a (i + 1) r
end
mutual
theorem ShV.fr {w w' : World} (F : Fr noB w w') : ∀ {s : Shape} {k : Int} {o n : ByteArray} {ns ps : Sl}, ShV w k o n ns ps s → ShV w' k o n ns ps s
  | .mk _ _ _ _ _, _, _, _, _, _, h => by
    unfold ShV at h ⊢
    exact ⟨h.1, h.2.1, h.2.2.1, ⟨h.2.2.2.1.1.fr F, h.2.2.2.1.2⟩, ShL.fr F h.2.2.2.2⟩
theorem ShL.fr {w w' : World} (F : Fr noB w w') : ∀ {l : List Shape} {a : Option Addr} {i : Nat}, ShL w a i l → ShL w' a i l
  | [], _, _, _ => by unfold ShL; trivial
  | s :: r, _, _, h => by
    unfold ShL at h ⊢
    obtain ⟨⟨g, off, k, o, n, ns, ps, h0, h1, h2, h3, h4, h5, h6⟩, hr⟩ := h
    exact ⟨⟨g, off, k, o, n, ns, ps, h0, F.cell h1 (fun h => h), F.cell h2 (fun h => h), F.cell h3 (fun h => h), F.cell h4 (fun h => h), F.cell h5 (fun h => h), ShV.fr F h6⟩, ShL.fr F hr⟩
end
theorem ShL.at {w : World} {a : Option Addr} : ∀ {l : List Shape} {i j : Nat} {s : Shape}, ShL w a i l → l[j]? = some s → ∃ (g off : Nat) (k : Int) (o n : ByteArray) (ns ps : Sl), a = some ⟨g, off, none⟩ ∧ w.cell? ⟨g, off + (i + j) * 5, none⟩ = some (.int .i64 k) ∧ w.cell? ⟨g, off + (i + j) * 5 + 1, none⟩ = some (.string o) ∧ w.cell? ⟨g, off + (i + j) * 5 + 2, none⟩ = some (.string n) ∧
      w.cell? ⟨g, off + (i + j) * 5 + 3, none⟩ = some (.slice ns.a ns.n ns.c) ∧ w.cell? ⟨g, off + (i + j) * 5 + 4, none⟩ = some (.slice ps.a ps.n ps.c) ∧ ShV w k o n ns ps s
  | [], _, _, _, _, hj => by simp at hj
  | x :: r, i, 0, s, h, hj => by
    unfold ShL at h
    simp only [List.getElem?_cons_zero, Option.some.injEq] at hj
    subst hj
    exact h.1
  | x :: r, i, j + 1, s, h, hj => by
    unfold ShL at h
    have := ShL.at h.2 (by simpa using hj)
    rw [show i + (j + 1) = i + 1 + j by omega]
    exact this
def shCells (k : Int) (o n : ByteArray) (ns ps : Sl) : List Value := [.int .i64 k, .string o, .string n, .slice ns.a ns.n ns.c, .slice ps.a ps.n ps.c]
@[reducible] def shArg (k : Int) (o n : ByteArray) (ns ps : Sl) : Value := .agg #[.int .i64 k, .string o, .string n, .slice ns.a ns.n ns.c, .slice ps.a ps.n ps.c]
section
variable {R : Ending → World → Prop} {w : World}
theorem part_ld {l : List Shape} {a : Option Addr} {len i : Nat} {s : Shape} {K : Int → ByteArray → ByteArray → Sl → Sl → G} (h : ShL w a 0 l) (hs : l[i]? = some s) (hl : len = l.length)
    (hk : ∀ k o n ns ps, ShV w k o n ns ps s → K k o n ns ps R w) :
    idxG a len (i : Int) 5 (fun (x : Addr) => ldG (.int .i64) (x.add 0) (fun (k : Int) => ldG .str (x.add 1) (fun (o : ByteArray) => ldG .str (x.add 2) (fun (n : ByteArray) => ldG .slice (x.add 3) (fun (ns : Sl) => ldG .slice (x.add 4) (fun (ps : Sl) => K k o n ns ps)))))) R w := by
  obtain ⟨g, off, k, o, n, ns, ps, rfl, c0, c1, c2, c3, c4, hv⟩ := h.at hs
  have hi := (List.getElem?_eq_some_iff.1 hs).1
  rw [Nat.zero_add] at c0 c1 c2 c3 c4
  refine idxB_ok (n := len) (i := i) (by omega) ?_
  simp only [Addr.add_lit, Nat.add_zero]
  exact ld_ok (c := .int .i64) c0 (ld_ok (c := .str) c1 (ld_ok (c := .str) c2 (ld_ok (c := .slice) (x := ns) c3 (ld_ok (c := .slice) (x := ps) c4 (hk k o n ns ps hv)))))
theorem ShV.parts {k : Int} {o n : ByteArray} {ns ps : Sl} {s : Shape} (h : ShV w k o n ns ps s) : k = s.kind ∧ bl o = s.of ∧ bl n = s.name ∧ (RdS w ns (s.names.map bs) ∧ s.names.length < 4611686018427387904 ∧ ps.n = s.parts.length ∧ s.parts.length < 4611686018427387904 ∧ o.size < 4611686018427387904 ∧ n.size < 4611686018427387904 ∧ ∀ x ∈ s.names, x.length < 4611686018427387904) ∧ ShL w ps.a 0 s.parts := by
  cases s
  unfold ShV at h
  exact h
end
end Go.Lift
end
section
namespace Go.Shp
open Go.Lex
mutual
def refSize : Shape → Nat → Nat
  | .mk _ _ _ _ ps, m => refSizes ps m 1
def refSizes : List Shape → Nat → Nat → Nat
  | [], _, n => n
  | s :: r, m, n => if n ≤ m then refSizes r m (n + refSize s (m - n)) else n
end
mutual
theorem refSize_spec : ∀ (s : Shape) (m : Nat), (size s ≤ m → refSize s m = size s) ∧ (m < size s → m < refSize s m)
  | .mk k o n ns ps, m => by
    have := refSizes_spec ps m 1
    rw [size_mk]
    unfold refSize
    exact this
theorem refSizes_spec : ∀ (l : List Shape) (m n : Nat), (n + sizes l ≤ m → refSizes l m n = n + sizes l) ∧ (m < n + sizes l → m < refSizes l m n)
  | [], m, n => by
    unfold sizes refSizes
    exact ⟨fun _ => rfl, fun h => h⟩
  | s :: r, m, n => by
    unfold sizes refSizes
    have h1 := refSize_spec s (m - n)
    have hp := size_pos s
    by_cases h : n ≤ m
    · rw [if_pos h]
      have h2 := refSizes_spec r m (n + refSize s (m - n))
      constructor
      · intro hs
        rw [h1.1 (by omega)] at h2 ⊢
        rw [h2.1 (by omega)]
        omega
      · intro hs
        by_cases h3 : size s ≤ m - n
        · rw [h1.1 h3] at h2 ⊢
          exact h2.2 (by omega)
        · have := h1.2 (by omega)
          refine h2.2 (by omega)
    · rw [if_neg h]
      exact ⟨fun hs => by omega, fun hs => by omega⟩
end
mutual
theorem refSize_le : ∀ (s : Shape) (m : Nat), refSize s m ≤ m + 1 ∧ 1 ≤ refSize s m
  | .mk k o n ns ps, m => by
    unfold refSize
    exact refSizes_le ps m 1 (by omega) (Nat.le_refl _)
theorem refSizes_le : ∀ (l : List Shape) (m n : Nat), n ≤ m + 1 → 1 ≤ n → refSizes l m n ≤ m + 1 ∧ 1 ≤ refSizes l m n
  | [], m, n, h, h1 => by unfold refSizes; exact ⟨h, h1⟩
  | s :: r, m, n, h, h1 => by
    unfold refSizes
    split
    · have := refSize_le s (m - n)
      exact refSizes_le r m _ (by omega) (by omega)
    · exact ⟨h, h1⟩
end
theorem allFits_mem : ∀ {l : List Shape} {s : Shape}, allFits l = true → s ∈ l → allFit s = true
  | x :: r, s, h, hs => by
    unfold allFits at h
    rw [Bool.and_eq_true] at h
    rcases List.mem_cons.1 hs with rfl | hs
    · exact h.1
    · exact allFits_mem h.2 hs
theorem allFit_parts {k : Int} {o n : B} {ns : List B} {ps : List Shape} (h : allFit (.mk k o n ns ps) = true) : fits (.mk k o n ns ps) = true ∧ ∀ s ∈ ps, allFit s = true := by
  unfold allFit at h
  rw [Bool.and_eq_true] at h
  exact ⟨h.1, fun s hs => allFits_mem h.2 hs⟩
theorem check_ok {s : Shape} : check s = 0 ↔ size s ≤ 400 ∧ deep s ≤ 40 ∧ allFit s = true := by
  unfold check
  by_cases h1 : 400 < size s
  · rw [if_pos h1]; simp; omega
  rw [if_neg h1]
  by_cases h2 : 40 < deep s
  · rw [if_pos h2]; simp; omega
  rw [if_neg h2]
  cases h3 : allFit s with
  | true => simp; omega
  | false => simp
theorem withinF_iff {f : Shape → Shape → Bool} {os : List B} {qs : List Shape} : ∀ {ns : List B} {ps : List Shape}, withinF f ns ps os qs = true ↔ ∀ (i : Nat) (n : B) (p : Shape), ns[i]? = some n → ps[i]? = some p → ∃ q, find os qs n = some q ∧ f p q = true
  | [], ps => by
    refine ⟨fun _ i n p h => by simp at h, fun _ => by simp [withinF]⟩
  | n :: ns, [] => by
    refine ⟨fun _ i n p _ h => by simp at h, fun _ => by simp [withinF]⟩
  | n :: ns, p :: ps => by
    unfold withinF
    rw [Bool.and_eq_true, withinF_iff]
    constructor
    · rintro ⟨h1, h2⟩ i m q hn hp
      cases i with
      | zero =>
        simp only [List.getElem?_cons_zero, Option.some.injEq] at hn hp
        subst hn hp
        cases hf : find os qs n with
        | none => rw [hf] at h1; cases h1
        | some x => rw [hf] at h1; exact ⟨x, rfl, h1⟩
      | succ i => exact h2 i m q (by simpa using hn) (by simpa using hp)
    · intro h
      refine ⟨?_, fun i m q hn hp => h (i + 1) m q (by simpa using hn) (by simpa using hp)⟩
      obtain ⟨x, hx, hfx⟩ := h 0 n p rfl rfl
      rw [hx]
      exact hfx
theorem find_iff : ∀ {ns : List B} {ps : List Shape} {n : B} {p : Shape}, ns.Nodup → (find ns ps n = some p ↔ ∃ i : Nat, ns[i]? = some n ∧ ps[i]? = some p)
  | [], ps, n, p, _ => by simp [find]
  | x :: ns, [], n, p, _ => by simp [find]
  | x :: ns, q :: ps, n, p, h => by
    rw [List.nodup_cons] at h
    unfold find
    by_cases hx : x = n
    · subst hx
      rw [if_pos rfl]
      constructor
      · intro e
        cases e
        exact ⟨0, rfl, rfl⟩
      · rintro ⟨i, h1, h2⟩
        cases i with
        | zero => simpa using h2
        | succ i => exact absurd (List.mem_of_getElem? (by simpa using h1)) h.1
    · rw [if_neg hx, find_iff h.2]
      constructor
      · rintro ⟨i, h1, h2⟩
        exact ⟨i + 1, by simpa using h1, by simpa using h2⟩
      · rintro ⟨i, h1, h2⟩
        cases i with
        | zero => simp only [List.getElem?_cons_zero, Option.some.injEq] at h1; exact absurd h1 hx
        | succ i => exact ⟨i, by simpa using h1, by simpa using h2⟩
end Go.Shp
end
section
namespace Go.Shp
open Go.Lex Go.Lib
theorem u8lt (a b : UInt8) : a < b ↔ a.toNat < b.toNat := UInt8.lt_iff_toNat_lt
theorem cmp_self : ∀ a : B, compareBytes a a = 0
  | [] => rfl
  | a :: r => by
    unfold compareBytes
    rw [if_neg (by rw [u8lt]; omega), if_neg (by rw [u8lt]; omega)]
    exact cmp_self r
theorem cmp_neg : ∀ a b : B, compareBytes b a = -compareBytes a b
  | [], [] => rfl
  | [], _ :: _ => rfl
  | _ :: _, [] => rfl
  | a :: r, b :: t => by
    unfold compareBytes
    by_cases h1 : a < b
    · have h2 : ¬ b < a := by rw [u8lt] at *; omega
      rw [if_pos h1, if_neg h2, if_pos h1]
      rfl
    · rw [if_neg h1]
      by_cases h2 : b < a
      · rw [if_pos h2, if_pos h2, if_neg h1]
      · rw [if_neg h2, if_neg h2, if_neg h1]
        exact cmp_neg r t
theorem cmp_val : ∀ a b : B, compareBytes a b = -1 ∨ compareBytes a b = 0 ∨ compareBytes a b = 1
  | [], [] => .inr (.inl rfl)
  | [], _ :: _ => .inl rfl
  | _ :: _, [] => .inr (.inr rfl)
  | a :: r, b :: t => by
    unfold compareBytes
    split
    · exact .inl rfl
    split
    · exact .inr (.inr rfl)
    · exact cmp_val r t
theorem cmp_zero : ∀ {a b : B}, compareBytes a b = 0 → a = b
  | [], [], _ => rfl
  | [], _ :: _, h => by simp [compareBytes] at h
  | _ :: _, [], h => by simp [compareBytes] at h
  | a :: r, b :: t, h => by
    unfold compareBytes at h
    split at h
    · simp at h
    split at h
    · simp at h
    · rename_i h1 h2
      have : a = b := by
        rw [u8lt] at h1 h2
        exact UInt8.toNat_inj.1 (by omega)
      rw [this, cmp_zero h]
theorem cmp_trans : ∀ {a b c : B}, compareBytes a b < 0 → compareBytes b c < 0 → compareBytes a c < 0
  | [], [], _, h, _ => by simp [compareBytes] at h
  | _ :: _, [], _, h, _ => by simp [compareBytes] at h
  | _, _ :: _, [], _, h => by simp [compareBytes] at h
  | [], _ :: _, _ :: _, _, _ => by simp [compareBytes]
  | a :: r, b :: t, c :: u, h1, h2 => by
    unfold compareBytes at h1 h2 ⊢
    by_cases e1 : a < b
    · by_cases e2 : b < c
      · rw [if_pos (by rw [u8lt] at *; omega)]; decide
      · rw [if_neg e2] at h2
        by_cases e3 : c < b
        · rw [if_pos e3] at h2; simp at h2
        · rw [if_pos (by rw [u8lt] at *; omega)]; decide
    · rw [if_neg e1] at h1
      by_cases e3 : b < a
      · rw [if_pos e3] at h1; simp at h1
      · rw [if_neg e3] at h1
        by_cases e2 : b < c
        · rw [if_pos (by rw [u8lt] at *; omega)]; decide
        · rw [if_neg e2] at h2
          by_cases e4 : c < b
          · rw [if_pos e4] at h2; simp at h2
          · rw [if_neg e4] at h2
            rw [if_neg (by rw [u8lt] at *; omega), if_neg (by rw [u8lt] at *; omega)]
            exact cmp_trans h1 h2
theorem ltB_trans {a b c : B} (h1 : ltB a b = true) (h2 : ltB b c = true) : ltB a c = true := decide_eq_true (cmp_trans (of_decide_eq_true h1) (of_decide_eq_true h2))
theorem ltB_irr (a : B) : ltB a a = false := decide_eq_false (by rw [cmp_self]; omega)
theorem ltB_tri {a b : B} (h : a ≠ b) (h1 : ltB a b = false) : ltB b a = true := by
  have h1 := of_decide_eq_false h1
  refine decide_eq_true ?_
  rw [cmp_neg]
  have := cmp_val a b
  have h0 : compareBytes a b ≠ 0 := fun e => h (cmp_zero e)
  omega
def Up (l : List (B × Shape)) : Prop := l.Pairwise fun x y => ltB x.1 y.1 = true
theorem insertP_mem {n : B} {p : Shape} : ∀ {l : List (B × Shape)} {x : B × Shape}, x ∈ insertP n p l ↔ x = (n, p) ∨ x ∈ l
  | [], x => by simp [insertP]
  | (m, q) :: r, x => by
    unfold insertP
    split
    · rw [List.mem_cons, insertP_mem, List.mem_cons]
      constructor
      · rintro (h | h | h)
        · exact .inr (.inl h)
        · exact .inl h
        · exact .inr (.inr h)
      · rintro (h | h | h)
        · exact .inr (.inl h)
        · exact .inl h
        · exact .inr (.inr h)
    · rw [List.mem_cons, List.mem_cons]
theorem insertP_perm (n : B) (p : Shape) : ∀ l : List (B × Shape), (insertP n p l).Perm ((n, p) :: l)
  | [] => List.Perm.refl _
  | (m, q) :: r => by
    unfold insertP
    split
    · exact ((insertP_perm n p r).cons _).trans (List.Perm.swap _ _ _)
    · exact List.Perm.refl _
theorem sortP_perm : ∀ l : List (B × Shape), (sortP l).Perm l
  | [] => List.Perm.refl _
  | (n, p) :: r => by
    unfold sortP
    exact (insertP_perm n p _).trans ((sortP_perm r).cons _)
theorem insertP_up {n : B} {p : Shape} : ∀ {l : List (B × Shape)}, Up l → (∀ x ∈ l, x.1 ≠ n) → Up (insertP n p l)
  | [], _, _ => List.pairwise_singleton _ _
  | (m, q) :: r, h, hn => by
    unfold Up at h ⊢
    rw [List.pairwise_cons] at h
    unfold insertP
    split
    · rename_i hlt
      rw [List.pairwise_cons]
      refine ⟨fun x hx => ?_, insertP_up h.2 fun x hx => hn x (List.mem_cons_of_mem _ hx)⟩
      rcases insertP_mem.1 hx with rfl | hx
      · exact hlt
      · exact h.1 x hx
    · rename_i hlt
      have hlt : ltB m n = false := by simpa using hlt
      have hnm := ltB_tri (hn _ List.mem_cons_self) hlt
      rw [List.pairwise_cons, List.pairwise_cons]
      refine ⟨fun x hx => ?_, h.1, h.2⟩
      rcases List.mem_cons.1 hx with rfl | hx
      · exact hnm
      · exact ltB_trans hnm (h.1 x hx)
theorem sortP_up : ∀ {l : List (B × Shape)}, (l.map (·.1)).Nodup → Up (sortP l)
  | [], _ => List.Pairwise.nil
  | (n, p) :: r, h => by
    rw [List.map_cons, List.nodup_cons] at h
    unfold sortP
    refine insertP_up (sortP_up h.2) fun x hx e => h.1 ?_
    have := (sortP_perm r).mem_iff.1 hx
    exact List.mem_map.2 ⟨x, this, e⟩
theorem up_unique : ∀ {l m : List (B × Shape)}, Up l → Up m → l.Perm m → l = m
  | [], m, _, _, h => (List.nil_perm.1 h).symm
  | x :: l, [], _, _, h => by have := h.length_eq; simp at this
  | x :: l, y :: m, hl, hm, h => by
    unfold Up at hl hm
    rw [List.pairwise_cons] at hl hm
    have hxy : x = y := by
      have hx : x ∈ y :: m := h.mem_iff.1 List.mem_cons_self
      have hy : y ∈ x :: l := h.mem_iff.2 List.mem_cons_self
      rcases List.mem_cons.1 hx with e | hx
      · exact e
      rcases List.mem_cons.1 hy with e | hy
      · exact e.symm
      have h1 := hl.1 y hy
      have h2 := hm.1 x hx
      have := ltB_trans h1 h2
      rw [ltB_irr] at this
      cases this
    subst hxy
    rw [up_unique hl.2 hm.2 (List.Perm.cons_inv h)]
theorem up_sortP {l m : List (B × Shape)} (hn : (l.map (·.1)).Nodup) (hm : Up m) (h : m.Perm l) : m = sortP l := up_unique hm (sortP_up hn) (h.trans (sortP_perm l).symm)
end Go.Shp
end
section
namespace Go.Shp
open Go.Lex
theorem fits_bare {k : Int} {o n : B} {ns : List B} {ps : List Shape} (h : fits (.mk k o n ns ps) = true) (h9 : k ≠ 9) (h10 : k ≠ 10) : o = [] ∧ n = [] := by
  unfold fits at h
  simp only [] at h
  rw [if_neg (c := k = 9) h9, if_neg (c := k = 10) h10] at h
  repeat' split at h
  all_goals first | (cases h; done) | skip
  all_goals
    simp only [Bool.and_eq_true, List.isEmpty_iff] at h
    first
      | exact ⟨h.1.1.1, h.1.1.2⟩
      | exact ⟨h.1.1, h.1.2⟩
theorem fits_named {k : Int} {o n : B} {ns : List B} {ps : List Shape} (h : fits (.mk k o n ns ps) = true) (hk : k = 6 ∨ k = 7) : ns.length = ps.length ∧ ns.Nodup := by
  unfold fits at h
  simp only [] at h
  rw [if_neg (by omega), if_neg (by omega), if_pos hk] at h
  unfold namedOk at h
  simp only [Bool.and_eq_true, decide_eq_true_eq] at h
  exact ⟨h.2.1.1, h.2.2⟩
theorem fits_leaf {k : Int} {o n : B} {ns : List B} {ps : List Shape} (h : fits (.mk k o n ns ps) = true) (hk : k ≠ 5 ∧ k ≠ 6 ∧ k ≠ 7 ∧ k ≠ 8) : ps = [] ∧ ns = [] := by
  unfold fits at h
  simp only [] at h
  rw [if_neg (c := k = 5) hk.1, if_neg (c := k = 6 ∨ k = 7) (by omega), if_neg (c := k = 8) hk.2.2.2] at h
  repeat' split at h
  all_goals first | (cases h; done) | skip
  all_goals
    simp only [Bool.and_eq_true, List.isEmpty_iff] at h
    exact ⟨h.2, h.1.2⟩
theorem funAll_iff {f : Shape → Shape → Bool} : ∀ {ps qs : List Shape}, funAll f ps qs = true ↔ ps.length = qs.length ∧ ∀ (i : Nat) (p q : Shape), ps[i]? = some p → qs[i]? = some q → if i + 1 = ps.length then f p q = true else f q p = true
  | [], [] => by simp [funAll]
  | [], _ :: _ => by simp [funAll]
  | [x], [] => by simp [funAll]
  | x :: y :: r, [] => by simp [funAll]
  | [x], [y] => by
    unfold funAll
    constructor
    · intro h
      refine ⟨rfl, fun i p q hp hq => ?_⟩
      cases i with
      | zero =>
        simp only [List.getElem?_cons_zero, Option.some.injEq] at hp hq
        subst hp hq
        exact h
      | succ i => simp at hp
    · rintro ⟨_, h⟩
      exact h 0 x y rfl rfl
  | [x], y :: z :: t => by simp [funAll]
  | x :: y :: r, [z] => by
    have : funAll f (x :: y :: r) [z] = (f z x && funAll f (y :: r) []) := by conv => lhs; unfold funAll
    rw [this]
    cases r <;> simp [funAll]
  | x :: y :: r, z :: u :: t => by
    have e : funAll f (x :: y :: r) (z :: u :: t) = (f z x && funAll f (y :: r) (u :: t)) := by conv => lhs; unfold funAll
    rw [e, Bool.and_eq_true, funAll_iff]
    constructor
    · rintro ⟨h1, h2, h3⟩
      refine ⟨by simpa using h2, fun i p q hp hq => ?_⟩
      cases i with
      | zero =>
        simp only [List.getElem?_cons_zero, Option.some.injEq] at hp hq
        subst hp hq
        rw [if_neg (by simp)]
        exact h1
      | succ i =>
        have := h3 i p q (by simpa using hp) (by simpa using hq)
        simp only [List.length_cons] at this ⊢
        by_cases hi : i + 1 = r.length + 1
        · rw [if_pos hi] at this; rw [if_pos (by omega)]; exact this
        · rw [if_neg hi] at this; rw [if_neg (by omega)]; exact this
    · rintro ⟨h1, h2⟩
      refine ⟨?_, by simpa using h1, fun i p q hp hq => ?_⟩
      · have := h2 0 x z rfl rfl
        rw [if_neg (by simp)] at this
        exact this
      · have := h2 (i + 1) p q (by simpa using hp) (by simpa using hq)
        simp only [List.length_cons] at this ⊢
        by_cases hi : i + 1 = r.length + 1
        · rw [if_pos (by omega)] at this; rw [if_pos hi]; exact this
        · rw [if_neg (by omega)] at this; rw [if_neg hi]; exact this
end Go.Shp
end
section
namespace Go.Shp
open Go.Lex
theorem sortL_map : ∀ l : List Shape, sortL l = l.map sortS
  | [] => by rw [sortL]; rfl
  | s :: r => by rw [sortL, sortL_map r]; rfl
theorem sortS_nil (k : Int) (o n : B) (ps : List Shape) : sortS (.mk k o n [] ps) = .mk k o n [] (ps.map sortS) := by rw [sortS, if_pos rfl, sortL_map]
def pairs (ns : List B) (ps : List Shape) : List (B × Shape) := sortP (ns.zip (ps.map sortS))
theorem sortS_cons {k : Int} {o n : B} {ns : List B} {ps : List Shape} (h : ns ≠ []) : sortS (.mk k o n ns ps) = .mk k o n ((pairs ns ps).map (·.1)) ((pairs ns ps).map (·.2)) := by rw [sortS, if_neg h, sortL_map]; rfl
theorem zip_fst {α β : Type} : ∀ {l : List α} {m : List β}, l.length = m.length → (l.zip m).map (·.1) = l
  | [], [], _ => rfl
  | [], _ :: _, h => by simp at h
  | _ :: _, [], h => by simp at h
  | a :: l, b :: m, h => by
    rw [List.zip_cons_cons, List.map_cons, zip_fst (by simpa using h)]
theorem pairs_names {ns : List B} {ps : List Shape} (h : ns.length = ps.length) : ((pairs ns ps).map (·.1)).Perm ns := by
  have := (sortP_perm (ns.zip (ps.map sortS))).map (·.1)
  rw [zip_fst (by simpa using h)] at this
  exact this
theorem allFits_of {l : List Shape} (h : ∀ s ∈ l, allFit s = true) : allFits l = true := by
  induction l with
  | nil => rw [allFits]
  | cons s r ih =>
    rw [allFits, h s List.mem_cons_self, ih fun x hx => h x (List.mem_cons_of_mem _ hx)]
    rfl
end Go.Shp
end
