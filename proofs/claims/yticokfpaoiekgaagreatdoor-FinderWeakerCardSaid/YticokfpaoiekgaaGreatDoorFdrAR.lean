/- The law behind: one part of its proof (joined by program out of my own texts). No condition. -/
import Derived.Test.YticokfpaoiekgaaGreatDoorFdrAQ
import Derived.Laws.OwnMore
section
namespace Go.Lift
section
variable {P : Program} {R : Ending → World → Prop} {w : World}
def SrcC (w : World) (s : Sl) (sz : Nat) (cs : List Value) : Prop := cs.length = s.n * sz ∧ (s.a = none → s.n = 0 ∧ s.c = 0) ∧ ∀ ad, s.a = some ad → Held w (ad, cs)
theorem SrcC.fr {w' : World} {s : Sl} {sz : Nat} {cs : List Value} (h : SrcC w s sz cs) (F : Fr noB w w') : SrcC w' s sz cs := ⟨h.1, h.2.1, fun ad ha => F.held (h.2.2 ad ha) fun h => h⟩
theorem appendR_ok {t ty e : TypeId} {i : TypeInfo} {z : Value} {size bytes : Nat} (ht : P.underlying t = some (.slice e)) (hi : P.info? e = some i) (hz : i.zero = some z)
  (hsize : i.size = size) (hby : i.bytes = bytes) (hzs : z.cells.size = size) (hsz : 0 < size) {s : Sl} {n : Nat} {xs : List Value} (hown : w.ownsRow 0 e size (.slice s.a s.n s.c) n xs)
  {q : Sl} {news : List Value} (hq : SrcC w q size news) (h1 : ∀ u ∈ news, u.oneCell' = true)
  (h63 : n + q.n ≤ maxLen) (hbytes : (n + q.n) * bytes ≤ 140737488355328) {k : Sl → G}
  (h : ∀ (s' : Sl) w', w'.ownsRow 0 e size (.slice s'.a s'.n s'.c) (n + q.n) (xs ++ news) → Fr (fun k => ∃ a, s.a = some a ∧ a.block = k) w w' → (∀ a, s'.a = some a → s.a = some a ∨ (w.heap.size ≤ a.block ∧ a.block < w'.heap.size)) → k s' R w') :
  opG P (Builtin.append_ #[t, t] ty #[.slice s.a s.n s.c, .slice q.a q.n q.c]) (.one .slice) k R w := by
 obtain ⟨qa, qn, qc⟩ := q
 cases qa with
 | some ad => exact append_ok ht hi hz hsize hby hzs hsz hown hq.1 (hq.2.2 ad rfl) h1 h63 hbytes h
 | none =>
  obtain ⟨e1, e2⟩ := hq.2.1 rfl
  change qn = 0 at e1
  change qc = 0 at e2
  subst e1 e2
  have hn : news = [] := List.eq_nil_of_length_eq_zero (by rw [hq.1]; exact Nat.zero_mul _)
  subst hn
  refine ⟨(s, ()), w, run_append_owned_none (P := P) w 0 t ty e i size ht hi _ n xs hown, h s w ?_ (Fr.refl _ _) fun a ha => .inl ha⟩
  rw [List.append_nil]
  exact hown
def Stay (w : World) (F : List Fact) : Prop := ∀ w', Fr noB w w' → ∀ f ∈ F, Held w' f
theorem Stay.go {F : List Fact} (h : Stay w F) {w0 : World} {k : G} (G0 : Fr noB w w0) (hk : k R w0) : keepG F k R w0 := ⟨h w0 G0, hk⟩
theorem Stay.nil : Stay w [] := fun _ _ f hf => by cases hf
theorem Stay.cons {f : Fact} {F : List Fact} (h : ∀ w', Fr noB w w' → Held w' f) (hF : Stay w F) : Stay w (f :: F) := fun w' G0 g hg => (List.mem_cons.1 hg).elim (fun e => e ▸ h w' G0) (hF w' G0 g)
theorem own_new {b : Nat} {e : TypeId} {size : Nat} (h : Blk w b e []) : w.ownsRow 0 e size (.slice (some ⟨b, 0, none⟩) 0 0) 0 [] := by
 refine ⟨by simp, .inr ⟨b, 0, #[], rfl, Nat.zero_le _, h, Nat.le_refl _, Nat.zero_le _, by simp, by simp⟩⟩
theorem own_cells {e : TypeId} {size n : Nat} {s : Sl} {xs : List Value} (h : w.ownsRow 0 e size (.slice s.a s.n s.c) n xs) {S : Nat → Prop} {w' : World} (F : Fr S w w') (hs : ∀ a, s.a = some a → ¬ S a.block) : w'.ownsRow 0 e size (.slice s.a s.n s.c) n xs :=
 own_fr h F fun b hb => by
  cases ha : s.a with
  | none => rw [ha] at hb; cases hb
  | some a =>
   rw [ha] at hb
   simp only [Value.ownBlock, Option.some.injEq] at hb
   rw [← hb]
   exact hs a ha
theorem ins_ok {t ty e : TypeId} {i : TypeInfo} {z : Value} {size bytes : Nat} (ht : P.underlying t = some (.slice e)) (hi : P.info? e = some i) (hz : i.zero = some z)
  (hsize : i.size = size) (hby : i.bytes = bytes) (hzs : z.cells.size = size) (hsz : 0 < size) {x : Array Value} (hx : x.size = size) (hx1 : ∀ u ∈ x.toList, u.oneCell' = true)
  {pa qa : Option Addr} {pn pc qn qc : Nat} {ps qs : List Value} (hp : SrcC w ⟨pa, pn, pc⟩ size ps) (hq : SrcC w ⟨qa, qn, qc⟩ size qs) (hp1 : ∀ u ∈ ps, u.oneCell' = true) (hq1 : ∀ u ∈ qs, u.oneCell' = true)
  (h63 : pn + 1 + qn ≤ maxLen) (hbytes : (pn + 1 + qn) * bytes ≤ 140737488355328) {F1 F2 F3 F4 F5 F6 F7 F8 F9 F10 F11 F12 F13 F14 : List Fact}
  (k1 : Stay w F1) (k2 : Stay w F2) (k3 : Stay w F3) (k4 : Stay w F4) (k5 : Stay w F5) (k6 : Stay w F6) (k7 : Stay w F7) (k8 : Stay w F8) (k9 : Stay w F9) (k10 : Stay w F10) (k11 : Stay w F11) (k12 : Stay w F12) (k13 : Stay w F13) (k14 : Stay w F14) {K : Sl → G}
  (h : ∀ (l : Sl) w', w'.ownsRow 0 e size (.slice l.a l.n l.c) (pn + 1 + qn) (ps ++ x.toList ++ qs) → (∀ a, l.a = some a → w.heap.size ≤ a.block ∧ a.block < w'.heap.size) → Fr noB w w' → K l R w') :
  bothG
   (newG (.cells #[] e (0, 0)) fun m => keepG F1 (bothG
    (opG P (Builtin.append_ #[t, t] ty #[.slice (some ⟨m, 0, none⟩) 0 0, .slice pa pn pc]) (.one .slice) fun (l1 : Sl) => keepG F2 (newG (.cells x e (0, 0)) fun m2 => keepG F3 (opG P (Builtin.append_ #[t, t] ty #[.slice l1.a l1.n l1.c, .slice (some ⟨m2, 0, none⟩) 1 1]) (.one .slice) fun (l2 : Sl) => keepG F4 (opG P (Builtin.append_ #[t, t] ty #[.slice l2.a l2.n l2.c, .slice qa qn qc]) (.one .slice) fun (l3 : Sl) => keepG F5 (K l3)))))
    (newG (.cells x e (0, 0)) fun m2 => keepG F6 (opG P (Builtin.append_ #[t, t] ty #[.slice (some ⟨m, 0, none⟩) 0 0, .slice pa pn pc]) (.one .slice) fun (l1 : Sl) => keepG F7 (opG P (Builtin.append_ #[t, t] ty #[.slice l1.a l1.n l1.c, .slice (some ⟨m2, 0, none⟩) 1 1]) (.one .slice) fun (l2 : Sl) => keepG F8 (opG P (Builtin.append_ #[t, t] ty #[.slice l2.a l2.n l2.c, .slice qa qn qc]) (.one .slice) fun (l3 : Sl) => keepG F9 (K l3)))))))
   (newG (.cells x e (0, 0)) fun m2 => keepG F10 (newG (.cells #[] e (0, 0)) fun m => keepG F11 (opG P (Builtin.append_ #[t, t] ty #[.slice (some ⟨m, 0, none⟩) 0 0, .slice pa pn pc]) (.one .slice) fun (l1 : Sl) => keepG F12 (opG P (Builtin.append_ #[t, t] ty #[.slice l1.a l1.n l1.c, .slice (some ⟨m2, 0, none⟩) 1 1]) (.one .slice) fun (l2 : Sl) => keepG F13 (opG P (Builtin.append_ #[t, t] ty #[.slice l2.a l2.n l2.c, .slice qa qn qc]) (.one .slice) fun (l3 : Sl) => keepG F14 (K l3))))))
   R w := by
 have hb1 : (0 + pn) * bytes ≤ 140737488355328 := Nat.le_trans (Nat.mul_le_mul_right _ (by omega)) hbytes
 have hb2 : (0 + pn + 1) * bytes ≤ 140737488355328 := Nat.le_trans (Nat.mul_le_mul_right _ (by omega)) hbytes
 have hb3 : (0 + pn + 1 + qn) * bytes ≤ 140737488355328 := by rw [Nat.zero_add]; exact hbytes
 have hm1 : 0 + pn ≤ maxLen := by omega
 have hm3 : 0 + pn + 1 + qn ≤ maxLen := by omega
 have hx2 : x.toList.length = 1 * size := by rw [Array.length_toList, hx, Nat.one_mul]
 -- the last two appends
 have fin : ∀ {w1 : World} {m2 : Nat} {l1 : Sl} {FA FB : List Fact}, Stay w FA → Stay w FB → Fr noB w w1 → Blk w1 m2 e x.toList → w1.ownsRow 0 e size (.slice l1.a l1.n l1.c) (0 + pn) ([] ++ ps) → (∀ a, l1.a = some a → w.heap.size ≤ a.block ∧ a.block < w1.heap.size ∧ a.block ≠ m2) →
   opG P (Builtin.append_ #[t, t] ty #[.slice l1.a l1.n l1.c, .slice (some ⟨m2, 0, none⟩) 1 1]) (.one .slice) (fun (l2 : Sl) => keepG FA (opG P (Builtin.append_ #[t, t] ty #[.slice l2.a l2.n l2.c, .slice qa qn qc]) (.one .slice) fun (l3 : Sl) => keepG FB (K l3))) R w1 := by
  intro w1 m2 l1 FA FB kA kB G1 B1 own1 ha1
  refine append_ok ht hi hz hsize hby hzs hsz own1 (m := 1) hx2 (B1.held fun j v hj => by rw [Nat.zero_add]; exact hj) hx1 (by omega) hb2 fun l2 w2 own2 F2 ha2 => ?_
  have G2 : Fr noB w w2 := G1.then F2 fun y hy ⟨a, h1, h2⟩ => by have := (ha1 a h1).1; omega
  refine kA.go G2 ?_
  refine appendR_ok ht hi hz hsize hby hzs hsz own2 (q := ⟨qa, qn, qc⟩) (hq.fr G2) hq1 hm3 hb3 fun l3 w3 own3 F3 ha3 => ?_
  have hl2 : ∀ a, l2.a = some a → w.heap.size ≤ a.block ∧ a.block < w2.heap.size := fun a ha => by
   rcases ha2 a ha with h1 | h1
   ·have := ha1 a h1
    exact ⟨this.1, Nat.lt_of_lt_of_le this.2.1 F2.size⟩
   ·exact ⟨Nat.le_trans G1.size h1.1, h1.2⟩
  have G3 : Fr noB w w3 := G2.then F3 fun y hy ⟨a, h1, h2⟩ => by have := (hl2 a h1).1; omega
  refine kB.go G3 (h l3 w3 ?_ (fun a ha => ?_) G3)
  ·have e1 : 0 + pn + 1 + qn = pn + 1 + qn := by omega
   change w3.ownsRow 0 e size (.slice l3.a l3.n l3.c) (0 + pn + 1 + qn) ([] ++ ps ++ x.toList ++ qs) at own3
   rw [e1, List.nil_append] at own3
   exact own3
  ·rcases ha3 a ha with h1 | h1
   ·have := hl2 a h1
    exact ⟨this.1, Nat.lt_of_lt_of_le this.2 F3.size⟩
   ·exact ⟨Nat.le_trans G2.size h1.1, h1.2⟩
 refine both_ok (new_ok fun w1 m hm hs1 B1 G1 => k1.go G1 (both_ok ?_ ?_)) (new_ok fun w1 m2 hm2 hs1 C1 G1 => k10.go G1 (new_ok fun w2 m hm hs2 B2 F2 => k11.go (G1.then F2 fun _ _ h => h) ?_))
 ·refine appendR_ok ht hi hz hsize hby hzs hsz (s := ⟨some ⟨m, 0, none⟩, 0, 0⟩) (own_new B1) (q := ⟨pa, pn, pc⟩) (hp.fr G1) hp1 hm1 hb1 fun l1 w2 own2 F2 ha2 => ?_
  have G2 : Fr noB w w2 := G1.then F2 fun y hy ⟨a, h1, h2⟩ => by cases h1; change m = y at h2; omega
  have hl : ∀ a, l1.a = some a → w.heap.size ≤ a.block ∧ a.block < w2.heap.size := fun a ha => by
   rcases ha2 a ha with h1 | h1
   ·cases h1
    exact ⟨by change w.heap.size ≤ m; omega, by have := F2.size; change m < w2.heap.size; omega⟩
   ·exact ⟨Nat.le_trans G1.size h1.1, h1.2⟩
  refine k2.go G2 (new_ok fun w3 m2 hm2 hs3 C3 F3 => ?_)
  have G3 : Fr noB w w3 := G2.then F3 fun _ _ h => h
  refine k3.go G3 (fin k4 k5 G3 C3 (own_cells own2 F3 fun a _ h => h) fun a ha => ?_)
  have := hl a ha
  exact ⟨this.1, by omega, by omega⟩
 ·refine new_ok fun w2 m2 hm2 hs2 C2 F2 => ?_
  have G2 : Fr noB w w2 := G1.then F2 fun _ _ h => h
  refine k6.go G2 (appendR_ok ht hi hz hsize hby hzs hsz (s := ⟨some ⟨m, 0, none⟩, 0, 0⟩) (own_new (B1.fr F2 (fun h => h))) (q := ⟨pa, pn, pc⟩) (hp.fr G2) hp1 hm1 hb1 fun l1 w3 own3 F3 ha3 => ?_)
  have G3 : Fr noB w w3 := G2.then F3 fun y hy ⟨a, h1, h2⟩ => by cases h1; change m = y at h2; omega
  refine k7.go G3 (fin k8 k9 G3 (C2.fr F3 fun ⟨a, h1, h2⟩ => by cases h1; change m = m2 at h2; omega) own3 fun a ha => ?_)
  rcases ha3 a ha with h1 | h1
  ·cases h1
   exact ⟨by change w.heap.size ≤ m; omega, by have := F3.size; change m < w3.heap.size; omega, by change m ≠ m2; omega⟩
  ·have := G2.size
   exact ⟨by omega, h1.2, by omega⟩
 ·have G2 : Fr noB w w2 := G1.then F2 fun _ _ h => h
  refine appendR_ok ht hi hz hsize hby hzs hsz (s := ⟨some ⟨m, 0, none⟩, 0, 0⟩) (own_new B2) (q := ⟨pa, pn, pc⟩) (hp.fr G2) hp1 hm1 hb1 fun l1 w3 own3 F3 ha3 => ?_
  have G3 : Fr noB w w3 := G2.then F3 fun y hy ⟨a, h1, h2⟩ => by cases h1; change m = y at h2; omega
  refine k12.go G3 (fin k13 k14 G3 ((C1.fr F2 fun h => h).fr F3 fun ⟨a, h1, h2⟩ => by cases h1; change m = m2 at h2; omega) own3 fun a ha => ?_)
  rcases ha3 a ha with h1 | h1
  ·cases h1
   exact ⟨by change w.heap.size ≤ m; omega, by have := F3.size; change m < w3.heap.size; omega, by change m ≠ m2; omega⟩
  ·have := G2.size
   exact ⟨by omega, h1.2, by omega⟩
theorem keepG_nil (k : G) : keepG [] k = k := by
 funext R w
 unfold keepG
 simp
theorem ins_ok2 {t ty e : TypeId} {i : TypeInfo} {z : Value} {size bytes : Nat} (ht : P.underlying t = some (.slice e)) (hi : P.info? e = some i) (hz : i.zero = some z)
  (hsize : i.size = size) (hby : i.bytes = bytes) (hzs : z.cells.size = size) (hsz : 0 < size) {x : Array Value} (hx : x.size = size) (hx1 : ∀ u ∈ x.toList, u.oneCell' = true)
  {pa qa : Option Addr} {pn pc qn qc : Nat} {ps qs : List Value} (hp : SrcC w ⟨pa, pn, pc⟩ size ps) (hq : SrcC w ⟨qa, qn, qc⟩ size qs) (hp1 : ∀ u ∈ ps, u.oneCell' = true) (hq1 : ∀ u ∈ qs, u.oneCell' = true)
  (h63 : pn + 1 + qn ≤ maxLen) (hbytes : (pn + 1 + qn) * bytes ≤ 140737488355328) {F1 F2 F5 F7 F9 F11 F12 F14 : List Fact}
  (k1 : Stay w F1) (k2 : Stay w F2) (k5 : Stay w F5) (k7 : Stay w F7) (k9 : Stay w F9) (k11 : Stay w F11) (k12 : Stay w F12) (k14 : Stay w F14) {K : Sl → G}
  (h : ∀ (l : Sl) w', w'.ownsRow 0 e size (.slice l.a l.n l.c) (pn + 1 + qn) (ps ++ x.toList ++ qs) → (∀ a, l.a = some a → w.heap.size ≤ a.block ∧ a.block < w'.heap.size) → Fr noB w w' → K l R w') :
  bothG
   (newG (.cells #[] e (0, 0)) fun m => keepG F1 (bothG
    (opG P (Builtin.append_ #[t, t] ty #[.slice (some ⟨m, 0, none⟩) 0 0, .slice pa pn pc]) (.one .slice) fun (l1 : Sl) => keepG F2 (newG (.cells x e (0, 0)) fun m2 => (opG P (Builtin.append_ #[t, t] ty #[.slice l1.a l1.n l1.c, .slice (some ⟨m2, 0, none⟩) 1 1]) (.one .slice) fun (l2 : Sl) => (opG P (Builtin.append_ #[t, t] ty #[.slice l2.a l2.n l2.c, .slice qa qn qc]) (.one .slice) fun (l3 : Sl) => keepG F5 (K l3)))))
    (newG (.cells x e (0, 0)) fun m2 => (opG P (Builtin.append_ #[t, t] ty #[.slice (some ⟨m, 0, none⟩) 0 0, .slice pa pn pc]) (.one .slice) fun (l1 : Sl) => keepG F7 (opG P (Builtin.append_ #[t, t] ty #[.slice l1.a l1.n l1.c, .slice (some ⟨m2, 0, none⟩) 1 1]) (.one .slice) fun (l2 : Sl) => (opG P (Builtin.append_ #[t, t] ty #[.slice l2.a l2.n l2.c, .slice qa qn qc]) (.one .slice) fun (l3 : Sl) => keepG F9 (K l3)))))))
   (newG (.cells x e (0, 0)) fun m2 => (newG (.cells #[] e (0, 0)) fun m => keepG F11 (opG P (Builtin.append_ #[t, t] ty #[.slice (some ⟨m, 0, none⟩) 0 0, .slice pa pn pc]) (.one .slice) fun (l1 : Sl) => keepG F12 (opG P (Builtin.append_ #[t, t] ty #[.slice l1.a l1.n l1.c, .slice (some ⟨m2, 0, none⟩) 1 1]) (.one .slice) fun (l2 : Sl) => (opG P (Builtin.append_ #[t, t] ty #[.slice l2.a l2.n l2.c, .slice qa qn qc]) (.one .slice) fun (l3 : Sl) => keepG F14 (K l3))))))
   R w := by
 have g := ins_ok (ty := ty) ht hi hz hsize hby hzs hsz hx hx1 hp hq hp1 hq1 h63 hbytes k1 k2 Stay.nil Stay.nil k5 Stay.nil k7 Stay.nil k9 Stay.nil k11 k12 Stay.nil k14 h
 simp only [keepG_nil] at g
 exact g
end
end Go.Lift
end
section
namespace Go.Shp
open Go.Lex
theorem less_ltB : ∀ a b : B, Op.bytesLess a b = ltB a b
 | [], [] => rfl
 | _ :: _, [] => rfl
 | [], _ :: _ => rfl
 | a :: x, b :: y => by
  have ih := less_ltB x y
  rw [Op.bytesLess, ih]
  unfold ltB
  rw [Lib.compareBytes]
  by_cases h1 : a < b
  ·rw [if_pos h1, decide_eq_true h1]; rfl
  ·rw [if_neg h1, decide_eq_false h1, Bool.false_or]
   by_cases h2 : b < a
   ·rw [if_pos h2]
    have : (a == b) = false := by
     rw [beq_eq_false_iff_ne]
     rintro rfl
     exact h1 h2
    rw [this]
    rfl
   ·rw [if_neg h2]
    have : a = b := by
     rw [u8lt] at h1 h2
     apply UInt8.toNat_inj.1
     omega
    rw [beq_iff_eq.2 this, Bool.true_and]
theorem insertP_at {n : B} {p : Shape} : ∀ {L : List (B × Shape)} {k : Nat}, k ≤ L.length → (∀ (j : Nat) x, j < k → L[j]? = some x → ltB x.1 n = true) → (∀ x, L[k]? = some x → ltB x.1 n = false) → insertP n p L = L.take k ++ (n, p) :: L.drop k
 | [], k, h, _, _ => by
  have : k = 0 := by simpa using h
  subst this
  rfl
 | (m, q) :: r, 0, _, _, h => by
  have : ltB m n = false := h (m, q) rfl
  rw [insertP, if_neg (by rw [this]; exact Bool.false_ne_true)]
  rfl
 | (m, q) :: r, k + 1, hk, h1, h2 => by
  have : ltB m n = true := h1 0 (m, q) (by omega) rfl
  rw [insertP, if_pos this, insertP_at (k := k) (by simpa using hk) (fun j x hj hx => h1 (j + 1) x (by omega) (by simpa using hx)) (fun x hx => h2 x (by simpa using hx))]
  rfl
end Go.Shp
namespace Go.Lift
open Go.Shp Go.Lex
abbrev TV := Int × ByteArray × ByteArray × Sl × Sl
def tvCells (v : TV) : List Value := shCells v.1 v.2.1 v.2.2.1 v.2.2.2.1 v.2.2.2.2
def ShT (w : World) (v : TV) (s : Shape) : Prop := ShV w v.1 v.2.1 v.2.2.1 v.2.2.2.1 v.2.2.2.2 s
theorem tv_one {V : List TV} : ∀ u ∈ V.flatMap tvCells, u.oneCell' = true := by
 intro u hu
 obtain ⟨v, _, hv⟩ := List.mem_flatMap.1 hu
 simp only [tvCells, shCells, List.mem_cons, List.not_mem_nil, or_false] at hv
 rcases hv with rfl | rfl | rfl | rfl | rfl <;> rfl
def SP (w : World) (S : Nat → Prop) (V : List TV) (Q : List Shape) : Prop := V.length = Q.length ∧ ∀ (j : Nat) v q, V[j]? = some v → Q[j]? = some q → ∀ w', Fr S w w' → ShT w' v q
theorem SP.go {w w' : World} {S S' : Nat → Prop} {V : List TV} {Q : List Shape} (h : SP w S V Q) (F : Fr S w w') (hs : ∀ x, x < w.heap.size → S' x → S x) : SP w' S' V Q :=
 ⟨h.1, fun j v q hv hq w'' F2 => h.2 j v q hv hq w'' (F.then F2 hs)⟩
theorem shL_of {w : World} {a : Option Addr} : ∀ {Q : List Shape} {i : Nat}, (∀ (j : Nat) s, Q[j]? = some s → ∃ (g off : Nat) (k : Int) (o n : ByteArray) (ns ps : Sl), a = some ⟨g, off, none⟩ ∧ w.cell? ⟨g, off + (i + j) * 5, none⟩ = some (.int .i64 k) ∧ w.cell? ⟨g, off + (i + j) * 5 + 1, none⟩ = some (.string o) ∧ w.cell? ⟨g, off + (i + j) * 5 + 2, none⟩ = some (.string n) ∧
   w.cell? ⟨g, off + (i + j) * 5 + 3, none⟩ = some (.slice ns.a ns.n ns.c) ∧ w.cell? ⟨g, off + (i + j) * 5 + 4, none⟩ = some (.slice ps.a ps.n ps.c) ∧ ShV w k o n ns ps s) → ShL w a i Q
 | [], i, _ => by unfold ShL; trivial
 | s :: r, i, h => by
  unfold ShL
  refine ⟨?_, shL_of fun j x hx => ?_⟩
  ·have := h 0 s rfl
   rwa [Nat.add_zero] at this
  ·have := h (j + 1) x (by simpa using hx)
   rwa [show i + (j + 1) = i + 1 + j by omega] at this
theorem shL_own {w : World} {e : TypeId} {l : Sl} {V : List TV} {Q : List Shape} (h : w.ownsRow 0 e 5 (.slice l.a l.n l.c) V.length (V.flatMap tvCells)) (hl : V.length = Q.length) (hs : ∀ (j : Nat) v q, V[j]? = some v → Q[j]? = some q → ShT w v q) : l.n = Q.length ∧ ShL w l.a 0 Q := by
 obtain ⟨s', hv, hn, _⟩ := slice_of_own h
 simp only [Value.slice.injEq] at hv
 refine ⟨by rw [hv.2.1, hn, hl], shL_of fun j s hj => ?_⟩
 have hjl := (List.getElem?_eq_some_iff.1 hj).1
 obtain ⟨v, hv2⟩ : ∃ v, V[j]? = some v := ⟨_, List.getElem?_eq_getElem (by omega)⟩
 have hown := h.2
 rcases hown with ⟨h1, h2⟩ | ⟨g, cap, cur, h1, _, hg, _⟩
 ·omega
 ·simp only [Value.slice.injEq] at h1
  have hc := h.cells (g := g) (by rw [h1.1]; rfl)
  have at' : ∀ c u, c < 5 → (tvCells v)[c]? = some u → w.cell? ⟨g, 0 + (0 + j) * 5 + c, none⟩ = some u := fun c u hc5 hu => by
   have := hc (j * 5 + c) u (by rw [flat_at tvCells 5 (fun _ _ => rfl) hv2 c hc5]; exact hu)
   rw [Addr.add_lit] at this
   rw [Nat.zero_add, Nat.zero_add]
   simpa using this
  obtain ⟨k, o, n, ns, ps⟩ := v
  refine ⟨g, 0, k, o, n, ns, ps, h1.1, at' 0 _ (by omega) rfl, at' 1 _ (by omega) rfl, at' 2 _ (by omega) rfl, at' 3 _ (by omega) rfl, at' 4 _ (by omega) rfl, hs j _ s hv2 hj⟩
theorem src_own {w : World} {e : TypeId} {sz : Nat} {l : Sl} {xs : List Value} {n k : Nat} (h : w.ownsRow 0 e sz (.slice l.a l.n l.c) n xs) (hk : k ≤ n) :
  l.n = n ∧ n ≤ l.c ∧ SrcC w ⟨if l.c = 0 then l.a else l.a.map (·.add (0 * sz)), k, l.c⟩ sz (xs.take (k * sz)) ∧ SrcC w ⟨if l.c = k then l.a else l.a.map (·.add (k * sz)), n - k, l.c - k⟩ sz (xs.drop (k * sz)) := by
 have hxl := h.1
 have hle : k * sz ≤ n * sz := Nat.mul_le_mul_right _ hk
 rcases h.2 with ⟨h1, h2⟩ | ⟨g, cap, cur, h1, _, hg, hnc, _, hcs, htake⟩
 ·simp only [Value.slice.injEq] at h1
  obtain ⟨e1, e2, e3⟩ := h1
  subst h2
  have hk0 : k = 0 := by omega
  subst hk0
  have hx : xs = [] := List.eq_nil_of_length_eq_zero (by rw [hxl, Nat.zero_mul])
  subst hx
  refine ⟨e2, by omega, ⟨by simp, fun _ => ⟨rfl, e3⟩, fun ad ha => ?_⟩, ⟨by simp, fun _ => ⟨rfl, by change l.c - 0 = 0; omega⟩, fun ad ha => ?_⟩⟩
  ·rw [e1] at ha
   split at ha <;> cases ha
  ·rw [e1] at ha
   split at ha <;> cases ha
 ·simp only [Value.slice.injEq] at h1
  obtain ⟨e1, e2, e3⟩ := h1
  have hc := h.cells (g := g) (by rw [e1]; rfl)
  refine ⟨e2, by omega, ⟨by rw [List.length_take, hxl]; exact Nat.min_eq_left hle, fun ha => ?_, fun ad ha j u hj => ?_⟩, ⟨by rw [List.length_drop, hxl, Nat.sub_mul], fun ha => ?_, fun ad ha j u hj => ?_⟩⟩
  ·exfalso
   rw [e1] at ha
   split at ha <;> cases ha
  ·have had : ad = ⟨g, 0, none⟩ := by
    change (if l.c = 0 then l.a else l.a.map (·.add (0 * sz))) = some ad at ha
    rw [e1] at ha
    split at ha
    ·cases ha; rfl
    ·cases ha
     rw [Nat.zero_mul]
     rfl
   subst had
   have hj2 : j < k * sz := by
    have := (List.getElem?_eq_some_iff.1 hj).1
    rw [List.length_take] at this
    omega
   rw [List.getElem?_take, if_pos hj2] at hj
   exact hc j u hj
  ·exfalso
   rw [e1] at ha
   split at ha <;> cases ha
  ·change (if l.c = k then l.a else l.a.map (·.add (k * sz))) = some ad at ha
   have hj2 : k * sz + j < n * sz := by
    have := (List.getElem?_eq_some_iff.1 hj).1
    rw [List.length_drop, hxl] at this
    omega
   have hne : l.c ≠ k := by
    intro hck
    have : n = k := by omega
    subst this
    omega
   rw [if_neg hne, e1] at ha
   cases ha
   rw [List.getElem?_drop] at hj
   have := hc (k * sz + j) u hj
   rw [Addr.add_lit] at this
   simp only [Addr.add_lit]
   rw [show 0 + k * sz + j = 0 + (k * sz + j) by omega]
   exact this
end Go.Lift
end
