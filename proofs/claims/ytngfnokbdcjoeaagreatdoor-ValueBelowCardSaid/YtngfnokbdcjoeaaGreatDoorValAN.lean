/- The law behind: one part of its proof (joined by program out of my own texts). No condition. -/
import Derived.Test.YtngfnokbdcjoeaaGreatDoorValAM
import Derived.Laws.OwnMore
section
namespace Go.Lift
section
variable {P : Program} {R : Ending → World → Prop} {w : World}
def SrcC (w : World) (s : Sl) (sz : Nat) (cs : List Value) : Prop := cs.length = s.n * sz ∧ (s.a = none → s.n = 0 ∧ s.c = 0) ∧ ∀ ad, s.a = some ad → Held w (ad, cs)
theorem SrcC.fr {w' : World} {s : Sl} {sz : Nat} {cs : List Value} (h : SrcC w s sz cs) (F : Fr noB w w') : SrcC w' s sz cs := ⟨h.1, h.2.1, fun ad ha => F.held (h.2.2 ad ha) fun h => h⟩
theorem appendR_ok {t ty e : TypeId} {i : TypeInfo} {z : Value} {size bytes : Nat} (ht : P.underlying t = some (.slice e)) (hi : P.info? e = some i) (hz : i.zero = some z)
  (hsize : i.size = size) (hby : i.bytes = bytes) (hzs : z.cells.size = size) (hsz : 0 < size) {s : Sl} {n : Nat} {xs : List Value} (hown : w.ownsRow 0 e size (.slice s.a s.n s.c) n xs)
  {q : Sl} {news : List Value} (hq : SrcC w q size news) (h1 : ∀ u ∈ news, u.oneCell' = true)
  (h63 : n + q.n ≤ maxLen) (hbytes : (n + q.n) * bytes ≤ 140737488355328) {k : Sl → G}
  (h : ∀ (s' : Sl) w', w'.ownsRow 0 e size (.slice s'.a s'.n s'.c) (n + q.n) (xs ++ news) → Fr (fun k => ∃ a, s.a = some a ∧ a.block = k) w w' → (∀ a, s'.a = some a → s.a = some a ∨ (w.heap.size ≤ a.block ∧ a.block < w'.heap.size)) → k s' R w') :
  opG P (Builtin.append_ #[t, t] ty #[.slice s.a s.n s.c, .slice q.a q.n q.c]) (.one .slice) k R w := by
 obtain ⟨qa, qn, qc⟩ := q
 cases qa with
 | some ad => exact append_ok ht hi hz hsize hby hzs hsz hown hq.1 (hq.2.2 ad rfl) h1 h63 hbytes h
 | none =>
  obtain ⟨e1, e2⟩ := hq.2.1 rfl
  change qn = 0 at e1
  change qc = 0 at e2
  subst e1 e2
  have hn : news = [] := List.eq_nil_of_length_eq_zero (by rw [hq.1]; exact Nat.zero_mul _)
  subst hn
  refine ⟨(s, ()), w, run_append_owned_none (P := P) w 0 t ty e i size ht hi _ n xs hown, h s w ?_ (Fr.refl _ _) fun a ha => .inl ha⟩
  rw [List.append_nil]
  exact hown
def Stay (w : World) (F : List Fact) : Prop := ∀ w', Fr noB w w' → ∀ f ∈ F, Held w' f
theorem Stay.go {F : List Fact} (h : Stay w F) {w0 : World} {k : G} (G0 : Fr noB w w0) (hk : k R w0) : keepG F k R w0 := ⟨h w0 G0, hk⟩
theorem Stay.nil : Stay w [] := fun _ _ f hf => by cases hf
theorem Stay.cons {f : Fact} {F : List Fact} (h : ∀ w', Fr noB w w' → Held w' f) (hF : Stay w F) : Stay w (f :: F) := fun w' G0 g hg => (List.mem_cons.1 hg).elim (fun e => e ▸ h w' G0) (hF w' G0 g)
theorem own_new {b : Nat} {e : TypeId} {size : Nat} (h : Blk w b e []) : w.ownsRow 0 e size (.slice (some ⟨b, 0, none⟩) 0 0) 0 [] := by
 refine ⟨by simp, .inr ⟨b, 0, #[], rfl, Nat.zero_le _, h, Nat.le_refl _, Nat.zero_le _, by simp, by simp⟩⟩
theorem own_cells {e : TypeId} {size n : Nat} {s : Sl} {xs : List Value} (h : w.ownsRow 0 e size (.slice s.a s.n s.c) n xs) {S : Nat → Prop} {w' : World} (F : Fr S w w') (hs : ∀ a, s.a = some a → ¬ S a.block) : w'.ownsRow 0 e size (.slice s.a s.n s.c) n xs :=
 own_fr h F fun b hb => by
  cases ha : s.a with
  | none => rw [ha] at hb; cases hb
  | some a =>
   rw [ha] at hb
   simp only [Value.ownBlock, Option.some.injEq] at hb
   rw [← hb]
   exact hs a ha
theorem ins_ok {t ty e : TypeId} {i : TypeInfo} {z : Value} {size bytes : Nat} (ht : P.underlying t = some (.slice e)) (hi : P.info? e = some i) (hz : i.zero = some z)
  (hsize : i.size = size) (hby : i.bytes = bytes) (hzs : z.cells.size = size) (hsz : 0 < size) {x : Array Value} (hx : x.size = size) (hx1 : ∀ u ∈ x.toList, u.oneCell' = true)
  {pa qa : Option Addr} {pn pc qn qc : Nat} {ps qs : List Value} (hp : SrcC w ⟨pa, pn, pc⟩ size ps) (hq : SrcC w ⟨qa, qn, qc⟩ size qs) (hp1 : ∀ u ∈ ps, u.oneCell' = true) (hq1 : ∀ u ∈ qs, u.oneCell' = true)
  (h63 : pn + 1 + qn ≤ maxLen) (hbytes : (pn + 1 + qn) * bytes ≤ 140737488355328) {F1 F2 F3 F4 F5 F6 F7 F8 F9 F10 F11 F12 F13 F14 : List Fact}
  (k1 : Stay w F1) (k2 : Stay w F2) (k3 : Stay w F3) (k4 : Stay w F4) (k5 : Stay w F5) (k6 : Stay w F6) (k7 : Stay w F7) (k8 : Stay w F8) (k9 : Stay w F9) (k10 : Stay w F10) (k11 : Stay w F11) (k12 : Stay w F12) (k13 : Stay w F13) (k14 : Stay w F14) {K : Sl → G}
  (h : ∀ (l : Sl) w', w'.ownsRow 0 e size (.slice l.a l.n l.c) (pn + 1 + qn) (ps ++ x.toList ++ qs) → (∀ a, l.a = some a → w.heap.size ≤ a.block ∧ a.block < w'.heap.size) → Fr noB w w' → K l R w') :
  bothG
   (newG (.cells #[] e (0, 0)) fun m => keepG F1 (bothG
    (opG P (Builtin.append_ #[t, t] ty #[.slice (some ⟨m, 0, none⟩) 0 0, .slice pa pn pc]) (.one .slice) fun (l1 : Sl) => keepG F2 (newG (.cells x e (0, 0)) fun m2 => keepG F3 (opG P (Builtin.append_ #[t, t] ty #[.slice l1.a l1.n l1.c, .slice (some ⟨m2, 0, none⟩) 1 1]) (.one .slice) fun (l2 : Sl) => keepG F4 (opG P (Builtin.append_ #[t, t] ty #[.slice l2.a l2.n l2.c, .slice qa qn qc]) (.one .slice) fun (l3 : Sl) => keepG F5 (K l3)))))
    (newG (.cells x e (0, 0)) fun m2 => keepG F6 (opG P (Builtin.append_ #[t, t] ty #[.slice (some ⟨m, 0, none⟩) 0 0, .slice pa pn pc]) (.one .slice) fun (l1 : Sl) => keepG F7 (opG P (Builtin.append_ #[t, t] ty #[.slice l1.a l1.n l1.c, .slice (some ⟨m2, 0, none⟩) 1 1]) (.one .slice) fun (l2 : Sl) => keepG F8 (opG P (Builtin.append_ #[t, t] ty #[.slice l2.a l2.n l2.c, .slice qa qn qc]) (.one .slice) fun (l3 : Sl) => keepG F9 (K l3)))))))
   (newG (.cells x e (0, 0)) fun m2 => keepG F10 (newG (.cells #[] e (0, 0)) fun m => keepG F11 (opG P (Builtin.append_ #[t, t] ty #[.slice (some ⟨m, 0, none⟩) 0 0, .slice pa pn pc]) (.one .slice) fun (l1 : Sl) => keepG F12 (opG P (Builtin.append_ #[t, t] ty #[.slice l1.a l1.n l1.c, .slice (some ⟨m2, 0, none⟩) 1 1]) (.one .slice) fun (l2 : Sl) => keepG F13 (opG P (Builtin.append_ #[t, t] ty #[.slice l2.a l2.n l2.c, .slice qa qn qc]) (.one .slice) fun (l3 : Sl) => keepG F14 (K l3))))))
   R w := by
 have hb1 : (0 + pn) * bytes ≤ 140737488355328 := Nat.le_trans (Nat.mul_le_mul_right _ (by omega)) hbytes
 have hb2 : (0 + pn + 1) * bytes ≤ 140737488355328 := Nat.le_trans (Nat.mul_le_mul_right _ (by omega)) hbytes
 have hb3 : (0 + pn + 1 + qn) * bytes ≤ 140737488355328 := by rw [Nat.zero_add]; exact hbytes
 have hm1 : 0 + pn ≤ maxLen := by omega
 have hm3 : 0 + pn + 1 + qn ≤ maxLen := by omega
 have hx2 : x.toList.length = 1 * size := by rw [Array.length_toList, hx, Nat.one_mul]
 -- the last two appends
 have fin : ∀ {w1 : World} {m2 : Nat} {l1 : Sl} {FA FB : List Fact}, Stay w FA → Stay w FB → Fr noB w w1 → Blk w1 m2 e x.toList → w1.ownsRow 0 e size (.slice l1.a l1.n l1.c) (0 + pn) ([] ++ ps) → (∀ a, l1.a = some a → w.heap.size ≤ a.block ∧ a.block < w1.heap.size ∧ a.block ≠ m2) →
   opG P (Builtin.append_ #[t, t] ty #[.slice l1.a l1.n l1.c, .slice (some ⟨m2, 0, none⟩) 1 1]) (.one .slice) (fun (l2 : Sl) => keepG FA (opG P (Builtin.append_ #[t, t] ty #[.slice l2.a l2.n l2.c, .slice qa qn qc]) (.one .slice) fun (l3 : Sl) => keepG FB (K l3))) R w1 := by
  intro w1 m2 l1 FA FB kA kB G1 B1 own1 ha1
  refine append_ok ht hi hz hsize hby hzs hsz own1 (m := 1) hx2 (B1.held fun j v hj => by rw [Nat.zero_add]; exact hj) hx1 (by omega) hb2 fun l2 w2 own2 F2 ha2 => ?_
  have G2 : Fr noB w w2 := G1.then F2 fun y hy ⟨a, h1, h2⟩ => by have := (ha1 a h1).1; omega
  refine kA.go G2 ?_
  refine appendR_ok ht hi hz hsize hby hzs hsz own2 (q := ⟨qa, qn, qc⟩) (hq.fr G2) hq1 hm3 hb3 fun l3 w3 own3 F3 ha3 => ?_
  have hl2 : ∀ a, l2.a = some a → w.heap.size ≤ a.block ∧ a.block < w2.heap.size := fun a ha => by
   rcases ha2 a ha with h1 | h1
   ·have := ha1 a h1
    exact ⟨this.1, Nat.lt_of_lt_of_le this.2.1 F2.size⟩
   ·exact ⟨Nat.le_trans G1.size h1.1, h1.2⟩
  have G3 : Fr noB w w3 := G2.then F3 fun y hy ⟨a, h1, h2⟩ => by have := (hl2 a h1).1; omega
  refine kB.go G3 (h l3 w3 ?_ (fun a ha => ?_) G3)
  ·have e1 : 0 + pn + 1 + qn = pn + 1 + qn := by omega
   change w3.ownsRow 0 e size (.slice l3.a l3.n l3.c) (0 + pn + 1 + qn) ([] ++ ps ++ x.toList ++ qs) at own3
   rw [e1, List.nil_append] at own3
   exact own3
  ·rcases ha3 a ha with h1 | h1
   ·have := hl2 a h1
    exact ⟨this.1, Nat.lt_of_lt_of_le this.2 F3.size⟩
   ·exact ⟨Nat.le_trans G2.size h1.1, h1.2⟩
 refine both_ok (new_ok fun w1 m hm hs1 B1 G1 => k1.go G1 (both_ok ?_ ?_)) (new_ok fun w1 m2 hm2 hs1 C1 G1 => k10.go G1 (new_ok fun w2 m hm hs2 B2 F2 => k11.go (G1.then F2 fun _ _ h => h) ?_))
 ·refine appendR_ok ht hi hz hsize hby hzs hsz (s := ⟨some ⟨m, 0, none⟩, 0, 0⟩) (own_new B1) (q := ⟨pa, pn, pc⟩) (hp.fr G1) hp1 hm1 hb1 fun l1 w2 own2 F2 ha2 => ?_
  have G2 : Fr noB w w2 := G1.then F2 fun y hy ⟨a, h1, h2⟩ => by cases h1; change m = y at h2; omega
  have hl : ∀ a, l1.a = some a → w.heap.size ≤ a.block ∧ a.block < w2.heap.size := fun a ha => by
   rcases ha2 a ha with h1 | h1
   ·cases h1
    exact ⟨by change w.heap.size ≤ m; omega, by have := F2.size; change m < w2.heap.size; omega⟩
   ·exact ⟨Nat.le_trans G1.size h1.1, h1.2⟩
  refine k2.go G2 (new_ok fun w3 m2 hm2 hs3 C3 F3 => ?_)
  have G3 : Fr noB w w3 := G2.then F3 fun _ _ h => h
  refine k3.go G3 (fin k4 k5 G3 C3 (own_cells own2 F3 fun a _ h => h) fun a ha => ?_)
  have := hl a ha
  exact ⟨this.1, by omega, by omega⟩
 ·refine new_ok fun w2 m2 hm2 hs2 C2 F2 => ?_
  have G2 : Fr noB w w2 := G1.then F2 fun _ _ h => h
  refine k6.go G2 (appendR_ok ht hi hz hsize hby hzs hsz (s := ⟨some ⟨m, 0, none⟩, 0, 0⟩) (own_new (B1.fr F2 (fun h => h))) (q := ⟨pa, pn, pc⟩) (hp.fr G2) hp1 hm1 hb1 fun l1 w3 own3 F3 ha3 => ?_)
  have G3 : Fr noB w w3 := G2.then F3 fun y hy ⟨a, h1, h2⟩ => by cases h1; change m = y at h2; omega
  refine k7.go G3 (fin k8 k9 G3 (C2.fr F3 fun ⟨a, h1, h2⟩ => by cases h1; change m = m2 at h2; omega) own3 fun a ha => ?_)
  rcases ha3 a ha with h1 | h1
  ·cases h1
   exact ⟨by change w.heap.size ≤ m; omega, by have := F3.size; change m < w3.heap.size; omega, by change m ≠ m2; omega⟩
  ·have := G2.size
   exact ⟨by omega, h1.2, by omega⟩
 ·have G2 : Fr noB w w2 := G1.then F2 fun _ _ h => h
  refine appendR_ok ht hi hz hsize hby hzs hsz (s := ⟨some ⟨m, 0, none⟩, 0, 0⟩) (own_new B2) (q := ⟨pa, pn, pc⟩) (hp.fr G2) hp1 hm1 hb1 fun l1 w3 own3 F3 ha3 => ?_
  have G3 : Fr noB w w3 := G2.then F3 fun y hy ⟨a, h1, h2⟩ => by cases h1; change m = y at h2; omega
  refine k12.go G3 (fin k13 k14 G3 ((C1.fr F2 fun h => h).fr F3 fun ⟨a, h1, h2⟩ => by cases h1; change m = m2 at h2; omega) own3 fun a ha => ?_)
  rcases ha3 a ha with h1 | h1
  ·cases h1
   exact ⟨by change w.heap.size ≤ m; omega, by have := F3.size; change m < w3.heap.size; omega, by change m ≠ m2; omega⟩
  ·have := G2.size
   exact ⟨by omega, h1.2, by omega⟩
end
end Go.Lift
end
section
namespace Go.Shp
open Go.Lex
theorem less_ltB : ∀ a b : B, Op.bytesLess a b = ltB a b
 | [], [] => rfl
 | _ :: _, [] => rfl
 | [], _ :: _ => rfl
 | a :: x, b :: y => by
  have ih := less_ltB x y
  rw [Op.bytesLess, ih]
  unfold ltB
  rw [Lib.compareBytes]
  by_cases h1 : a < b
  ·rw [if_pos h1, decide_eq_true h1]; rfl
  ·rw [if_neg h1, decide_eq_false h1, Bool.false_or]
   by_cases h2 : b < a
   ·rw [if_pos h2]
    have : (a == b) = false := by
     rw [beq_eq_false_iff_ne]
     rintro rfl
     exact h1 h2
    rw [this]
    rfl
   ·rw [if_neg h2]
    have : a = b := by
     rw [u8lt] at h1 h2
     apply UInt8.toNat_inj.1
     omega
    rw [beq_iff_eq.2 this, Bool.true_and]
theorem insertP_at {n : B} {p : Shape} : ∀ {L : List (B × Shape)} {k : Nat}, k ≤ L.length → (∀ (j : Nat) x, j < k → L[j]? = some x → ltB x.1 n = true) → (∀ x, L[k]? = some x → ltB x.1 n = false) → insertP n p L = L.take k ++ (n, p) :: L.drop k
 | [], k, h, _, _ => by
  have : k = 0 := by simpa using h
  subst this
  rfl
 | (m, q) :: r, 0, _, _, h => by
  have : ltB m n = false := h (m, q) rfl
  rw [insertP, if_neg (by rw [this]; exact Bool.false_ne_true)]
  rfl
 | (m, q) :: r, k + 1, hk, h1, h2 => by
  have : ltB m n = true := h1 0 (m, q) (by omega) rfl
  rw [insertP, if_pos this, insertP_at (k := k) (by simpa using hk) (fun j x hj hx => h1 (j + 1) x (by omega) (by simpa using hx)) (fun x hx => h2 x (by simpa using hx))]
  rfl
end Go.Shp
namespace Go.Lift
open Go.Shp Go.Lex
abbrev TV := Int × ByteArray × ByteArray × Sl × Sl
def tvCells (v : TV) : List Value := shCells v.1 v.2.1 v.2.2.1 v.2.2.2.1 v.2.2.2.2
def ShT (w : World) (v : TV) (s : Shape) : Prop := ShV w v.1 v.2.1 v.2.2.1 v.2.2.2.1 v.2.2.2.2 s
theorem tv_one {V : List TV} : ∀ u ∈ V.flatMap tvCells, u.oneCell' = true := by
 intro u hu
 obtain ⟨v, _, hv⟩ := List.mem_flatMap.1 hu
 simp only [tvCells, shCells, List.mem_cons, List.not_mem_nil, or_false] at hv
 rcases hv with rfl | rfl | rfl | rfl | rfl <;> rfl
def SP (w : World) (S : Nat → Prop) (V : List TV) (Q : List Shape) : Prop := V.length = Q.length ∧ ∀ (j : Nat) v q, V[j]? = some v → Q[j]? = some q → ∀ w', Fr S w w' → ShT w' v q
theorem SP.go {w w' : World} {S S' : Nat → Prop} {V : List TV} {Q : List Shape} (h : SP w S V Q) (F : Fr S w w') (hs : ∀ x, x < w.heap.size → S' x → S x) : SP w' S' V Q :=
 ⟨h.1, fun j v q hv hq w'' F2 => h.2 j v q hv hq w'' (F.then F2 hs)⟩
theorem shL_of {w : World} {a : Option Addr} : ∀ {Q : List Shape} {i : Nat}, (∀ (j : Nat) s, Q[j]? = some s → ∃ (g off : Nat) (k : Int) (o n : ByteArray) (ns ps : Sl), a = some ⟨g, off, none⟩ ∧ w.cell? ⟨g, off + (i + j) * 5, none⟩ = some (.int .i64 k) ∧ w.cell? ⟨g, off + (i + j) * 5 + 1, none⟩ = some (.string o) ∧ w.cell? ⟨g, off + (i + j) * 5 + 2, none⟩ = some (.string n) ∧
   w.cell? ⟨g, off + (i + j) * 5 + 3, none⟩ = some (.slice ns.a ns.n ns.c) ∧ w.cell? ⟨g, off + (i + j) * 5 + 4, none⟩ = some (.slice ps.a ps.n ps.c) ∧ ShV w k o n ns ps s) → ShL w a i Q
 | [], i, _ => by unfold ShL; trivial
 | s :: r, i, h => by
  unfold ShL
  refine ⟨?_, shL_of fun j x hx => ?_⟩
  ·have := h 0 s rfl
   rwa [Nat.add_zero] at this
  ·have := h (j + 1) x (by simpa using hx)
   rwa [show i + (j + 1) = i + 1 + j by omega] at this
theorem shL_own {w : World} {e : TypeId} {l : Sl} {V : List TV} {Q : List Shape} (h : w.ownsRow 0 e 5 (.slice l.a l.n l.c) V.length (V.flatMap tvCells)) (hl : V.length = Q.length) (hs : ∀ (j : Nat) v q, V[j]? = some v → Q[j]? = some q → ShT w v q) : l.n = Q.length ∧ ShL w l.a 0 Q := by
 obtain ⟨s', hv, hn, _⟩ := slice_of_own h
 simp only [Value.slice.injEq] at hv
 refine ⟨by rw [hv.2.1, hn, hl], shL_of fun j s hj => ?_⟩
 have hjl := (List.getElem?_eq_some_iff.1 hj).1
 obtain ⟨v, hv2⟩ : ∃ v, V[j]? = some v := ⟨_, List.getElem?_eq_getElem (by omega)⟩
 have hown := h.2
 rcases hown with ⟨h1, h2⟩ | ⟨g, cap, cur, h1, _, hg, _⟩
 ·omega
 ·simp only [Value.slice.injEq] at h1
  have hc := h.cells (g := g) (by rw [h1.1]; rfl)
  have at' : ∀ c u, c < 5 → (tvCells v)[c]? = some u → w.cell? ⟨g, 0 + (0 + j) * 5 + c, none⟩ = some u := fun c u hc5 hu => by
   have := hc (j * 5 + c) u (by rw [flat_at tvCells 5 (fun _ _ => rfl) hv2 c hc5]; exact hu)
   rw [Addr.add_lit] at this
   rw [Nat.zero_add, Nat.zero_add]
   simpa using this
  obtain ⟨k, o, n, ns, ps⟩ := v
  refine ⟨g, 0, k, o, n, ns, ps, h1.1, at' 0 _ (by omega) rfl, at' 1 _ (by omega) rfl, at' 2 _ (by omega) rfl, at' 3 _ (by omega) rfl, at' 4 _ (by omega) rfl, hs j _ s hv2 hj⟩
theorem src_own {w : World} {e : TypeId} {sz : Nat} {l : Sl} {xs : List Value} {n k : Nat} (h : w.ownsRow 0 e sz (.slice l.a l.n l.c) n xs) (hk : k ≤ n) :
  l.n = n ∧ n ≤ l.c ∧ SrcC w ⟨if l.c = 0 then l.a else l.a.map (·.add (0 * sz)), k, l.c⟩ sz (xs.take (k * sz)) ∧ SrcC w ⟨if l.c = k then l.a else l.a.map (·.add (k * sz)), n - k, l.c - k⟩ sz (xs.drop (k * sz)) := by
 have hxl := h.1
 have hle : k * sz ≤ n * sz := Nat.mul_le_mul_right _ hk
 rcases h.2 with ⟨h1, h2⟩ | ⟨g, cap, cur, h1, _, hg, hnc, _, hcs, htake⟩
 ·simp only [Value.slice.injEq] at h1
  obtain ⟨e1, e2, e3⟩ := h1
  subst h2
  have hk0 : k = 0 := by omega
  subst hk0
  have hx : xs = [] := List.eq_nil_of_length_eq_zero (by rw [hxl, Nat.zero_mul])
  subst hx
  refine ⟨e2, by omega, ⟨by simp, fun _ => ⟨rfl, e3⟩, fun ad ha => ?_⟩, ⟨by simp, fun _ => ⟨rfl, by change l.c - 0 = 0; omega⟩, fun ad ha => ?_⟩⟩
  ·rw [e1] at ha
   split at ha <;> cases ha
  ·rw [e1] at ha
   split at ha <;> cases ha
 ·simp only [Value.slice.injEq] at h1
  obtain ⟨e1, e2, e3⟩ := h1
  have hc := h.cells (g := g) (by rw [e1]; rfl)
  refine ⟨e2, by omega, ⟨by rw [List.length_take, hxl]; exact Nat.min_eq_left hle, fun ha => ?_, fun ad ha j u hj => ?_⟩, ⟨by rw [List.length_drop, hxl, Nat.sub_mul], fun ha => ?_, fun ad ha j u hj => ?_⟩⟩
  ·exfalso
   rw [e1] at ha
   split at ha <;> cases ha
  ·have had : ad = ⟨g, 0, none⟩ := by
    change (if l.c = 0 then l.a else l.a.map (·.add (0 * sz))) = some ad at ha
    rw [e1] at ha
    split at ha
    ·cases ha; rfl
    ·cases ha
     rw [Nat.zero_mul]
     rfl
   subst had
   have hj2 : j < k * sz := by
    have := (List.getElem?_eq_some_iff.1 hj).1
    rw [List.length_take] at this
    omega
   rw [List.getElem?_take, if_pos hj2] at hj
   exact hc j u hj
  ·exfalso
   rw [e1] at ha
   split at ha <;> cases ha
  ·change (if l.c = k then l.a else l.a.map (·.add (k * sz))) = some ad at ha
   have hj2 : k * sz + j < n * sz := by
    have := (List.getElem?_eq_some_iff.1 hj).1
    rw [List.length_drop, hxl] at this
    omega
   have hne : l.c ≠ k := by
    intro hck
    have : n = k := by omega
    subst this
    omega
   rw [if_neg hne, e1] at ha
   cases ha
   rw [List.getElem?_drop] at hj
   have := hc (k * sz + j) u hj
   rw [Addr.add_lit] at this
   simp only [Addr.add_lit]
   rw [show 0 + k * sz + j = 0 + (k * sz + j) by omega]
   exact this
end Go.Lift
end
section
namespace Go.Lift
open Go.Shp Go.Lex
section
variable {R : Ending → World → Prop} {w : World}
theorem rds_own {e : TypeId} {l : Sl} {N : List B} (h : w.ownsRow 0 e 1 (.slice l.a l.n l.c) N.length (N.map fun x => .string (bs x))) : RdS w l (N.map bs) := by
 obtain ⟨s', hv, hn, _⟩ := slice_of_own h
 simp only [Value.slice.injEq] at hv
 refine ⟨by rw [hv.2.1, hn, List.length_map], fun j x hj => ?_⟩
 have hjl : j < N.length := by simpa using (List.getElem?_eq_some_iff.1 hj).1
 rcases h.2 with ⟨h1, h2⟩ | ⟨g, cap, cur, h1, _, hg, _⟩
 ·omega
 ·simp only [Value.slice.injEq] at h1
  refine ⟨_, h1.1, h.cells (g := g) (by rw [h1.1]; rfl) (j * 1) _ ?_⟩
  rw [Nat.mul_one, List.getElem?_map]
  rw [List.getElem?_map] at hj
  cases hN : N[j]? with
  | none => rw [hN] at hj; cases hj
  | some y =>
   rw [hN] at hj
   cases hj
   rfl
theorem reslice_lo {l : Sl} {k sz : Nat} {K : Option Addr → Nat → Nat → G} (hk : k ≤ l.c) (h : K (if l.c = 0 then l.a else l.a.map (·.add (0 * sz))) k l.c R w) : resliceG l.a l.c (0 : Int) (k : Int) ((l.c : Nat) : Int) sz K R w := by
 refine reslice_ok (by omega) (by omega) (by omega) (by omega) ?_
 exact h
theorem reslice_hi {l : Sl} {k n sz : Nat} {K : Option Addr → Nat → Nat → G} (hn : l.n = n) (hk : k ≤ n) (hc : n ≤ l.c) (h : K (if l.c = k then l.a else l.a.map (·.add (k * sz))) (n - k) (l.c - k) R w) : resliceG l.a l.c (k : Int) ((l.n : Nat) : Int) ((l.c : Nat) : Int) sz K R w := by
 subst hn
 refine reslice_ok (by omega) (by omega) (by omega) (by omega) ?_
 exact h
end
end Go.Lift
namespace Go.Proofs.YtngfnokbdcjoeaaGreatDoor
open Go.Lift Go.Lex Go.Shp
def infoSays (P : Program) (t : TypeId) (size bytes cells : Nat) : Prop := ∃ i z, P.info? t = some i ∧ i.zero = some z ∧ i.size = size ∧ i.bytes = bytes ∧ z.cells.size = cells
theorem infoSays_of {P : Program} {t : TypeId} {size bytes cells : Nat} (h : (P.info? t).map (fun i => (i.size, i.bytes, i.zero.map (·.cells.size))) = some (size, bytes, some cells)) : infoSays P t size bytes cells := by
 cases hi : P.info? t with
 | none => rw [hi] at h; cases h
 | some i =>
  rw [hi] at h
  simp only [Option.map_some, Option.some.injEq, Prod.mk.injEq, Option.map_eq_some_iff] at h
  obtain ⟨h1, h2, z, h3, h4⟩ := h
  exact ⟨i, z, hi, h3, h1, h2, h4⟩
theorem infoStr : infoSays Tryz.prog 9 1 16 1 := infoSays_of (by kernel_rfl)
theorem infoShape : infoSays Tryz.prog 36 5 88 5 := infoSays_of (by kernel_rfl)
theorem uStrs' : Tryz.prog.underlying 22 = some (.slice 9) := by kernel_rfl
theorem uShapes : Tryz.prog.underlying 34 = some (.slice 36) := by kernel_rfl
theorem fits_names {k : Int} {o n : B} {ns : List B} {ps : List Shape} (h : fits (.mk k o n ns ps) = true) (hne : ns ≠ []) : k = 6 ∨ k = 7 := by
 refine Classical.byContradiction fun hk => hne ?_
 unfold fits at h
 simp only [] at h
 rw [if_neg (c := k = 6 ∨ k = 7) hk] at h
 repeat' split at h
 all_goals first | (cases h; done) | skip
 all_goals
  simp only [Bool.and_eq_true, List.isEmpty_iff] at h
  exact h.1.2
theorem flat_take {α β : Type} (f : α → List β) (m : Nat) (hm : ∀ x, (f x).length = m) : ∀ (l : List α) (a : Nat), (l.take a).flatMap f = (l.flatMap f).take (a * m)
 | [], a => by simp
 | x :: l, 0 => by simp
 | x :: l, a + 1 => by
  rw [List.take_succ_cons, List.flatMap_cons, List.flatMap_cons, flat_take f m hm l a, List.take_append, hm, List.take_of_length_le (l := f x) (by rw [hm, Nat.add_mul]; omega), show (a + 1) * m - m = a * m by rw [Nat.add_mul]; omega]
theorem flat_drop {α β : Type} (f : α → List β) (m : Nat) (hm : ∀ x, (f x).length = m) : ∀ (l : List α) (a : Nat), (l.drop a).flatMap f = (l.flatMap f).drop (a * m)
 | [], a => by simp
 | x :: l, 0 => by simp
 | x :: l, a + 1 => by
  rw [List.drop_succ_cons, List.flatMap_cons, flat_drop f m hm l a, List.drop_append, hm, show (f x).drop ((a + 1) * m) = [] from List.drop_eq_nil_of_le (by rw [hm, Nat.add_mul]; omega), show (a + 1) * m - m = a * m by rw [Nat.add_mul]; omega, List.nil_append]
def SortP (w : World) (s : Shape) (e : Ending) (w' : World) : Prop := ∃ (k : Int) (o n : ByteArray) (ns ps : Sl), e = .returned (shArg k o n ns ps) ∧ Fr noB w w' ∧ ∀ w'', Fr (fun b => b < w.heap.size) w' w'' → ShV w'' k o n ns ps s
theorem callSort_ok {w : World} {R : Ending → World → Prop} {f : FuncId} {args : Array Value} {s : Shape} (hc : Calls Tryz.prog f args w (SortP w s)) {K : Int → ByteArray → ByteArray → Sl → Sl → G}
  (h : ∀ k o n ns ps w', Fr noB w w' → (∀ w'', Fr (fun b => b < w.heap.size) w' w'' → ShV w'' k o n ns ps s) → K k o n ns ps R w') : callG Tryz.prog f args [.agg [.int .i64, .str, .str, .slice, .slice]] K R w :=
 call_ok hc fun _ w' ⟨k, o, n, ns, ps, he, F, hv⟩ => ⟨((k, o, n, ns, ps, ()), ()), he, h k o n ns ps w' F hv⟩
def SoFar (ns : List B) (ps : List Shape) (i : Nat) (N : List B) (Q : List Shape) : Prop :=
 (ns = [] ∧ N = [] ∧ Q = (ps.map sortS).take i) ∨ (ns ≠ [] ∧ ∃ M : List (B × Shape), N = M.map (·.1) ∧ Q = M.map (·.2) ∧ Up M ∧ M.Perm ((ns.zip (ps.map sortS)).take i))
end Go.Proofs.YtngfnokbdcjoeaaGreatDoor
end
section

end
section
namespace Go.Proofs.YtngfnokbdcjoeaaGreatDoor
open Go.Lift Go.Lex Go.Shp
section
variable {s s' : Shape} {w : World} {k : Int} {o n : ByteArray} {ns ps : Sl} {k2 : Int} {o2 n2 : ByteArray} {ns2 ps2 : Sl}
end
end Go.Proofs.YtngfnokbdcjoeaaGreatDoor
end
section

end
section

end
section
namespace Go.Proofs.YtngfnokbdcjoeaaGreatDoor
open Go.Lift Go.Lex Go.Shp
theorem callBV_ok {w : World} {R : Ending → World → Prop} {f : FuncId} {args : Array Value} {b : Bool} (hf : (resOf Tryz.prog f).isSome = true) (hc : AnsB f args w b) {k : Bool → G} (h : ∀ w', Fr noB w w' → k b R w') : callVG Tryz.prog (.func (.func f) #[] #[]) args [.one .bool] k R w := by
 refine ⟨f, #[], #[], rfl, hf, ?_⟩
 rw [Array.empty_append, Array.append_empty]
 exact hc.mono fun e w' ⟨he, F⟩ => .inl ⟨((b, ()), ()), he, h w' F⟩
theorem eqRow_ok {w : World} {l0 l1 : Sl} {A B' : List B} (hA : RdS w l0 (A.map bs)) (hB : RdS w l1 (B'.map bs)) (hl : A.length < 4611686018427387904) : AnsB 51 #[.slice l0.a l0.n l0.c, .slice l1.a l1.n l1.c] w (A == B') := by
 have h1 := hA.1
 have h2 := hB.1
 rw [List.length_map] at h1 h2
 apply c51
 unfold t51 wrZ ldSZ jn0Z lpIZ ixZ
 refine ite_ok (fun hne => ⟨?_, Fr.refl _ _⟩) fun he => ?_
 ·have hne : ((l0.n : Nat) : Int) ≠ (l1.n : Nat) := by simpa using hne
  have : (A == B') = false := by
   rw [beq_eq_false_iff_ne]
   rintro rfl
   omega
  rw [this]
 have he : ((l0.n : Nat) : Int) = (l1.n : Nat) := by simpa using he
 refine join0_ok (fun w' => A = B' ∧ Fr noB w w') (fun kend hkend => ?_) fun w' ⟨h, F⟩ => ⟨by rw [h]; simp, F⟩
 refine countL_ok A.length (by omega) (fun i w' => (∀ j, j < i → A[j]? = B'[j]?) ∧ Fr noB w w') (fun rec i w1 hi hI hrec => ?_) ⟨fun j h => by omega, Fr.refl _ _⟩
 obtain ⟨hdone, F1⟩ := hI
 refine ite_ok (fun hlt => ?_) fun hge => hkend _ ⟨?_, F1⟩
 ·have hlt : (i : Int) < (l0.n : Int) := of_decide_eq_true hlt
  obtain ⟨x, hx⟩ : ∃ x, A[i]? = some x := ⟨_, List.getElem?_eq_getElem (by omega)⟩
  obtain ⟨y, hy⟩ : ∃ y, B'[i]? = some y := ⟨_, List.getElem?_eq_getElem (by omega)⟩
  refine join_in (vs := []) (drew_ok fun w2 F2 z2 => str_ld (hA.fr (F1.tr F2)) hx (str_ld (hB.fr (F1.tr F2)) hy ?_))
  rw [eq_bl, bl_bs, bl_bs]
  refine ite_ok (fun hne => ⟨?_, F1.tr F2⟩) fun h => hrec (by omega) _ ⟨fun j hj => ?_, F1.tr F2⟩
  ·have hne : x ≠ y := by simpa using hne
   have : (A == B') = false := by
    rw [beq_eq_false_iff_ne]
    rintro rfl
    rw [hx] at hy
    exact hne (Option.some.inj hy)
   rw [this]
  ·have h : x = y := by simpa using h
   rcases Nat.lt_succ_iff_lt_or_eq.1 hj with hj | rfl
   ·exact hdone j hj
   ·rw [hx, hy, h]
 ·have hge : ¬ (i : Int) < (l0.n : Int) := of_decide_eq_false hge
  apply List.ext_getElem?
  intro j
  by_cases hj : j < i
  ·exact hdone j hj
  ·rw [List.getElem?_eq_none (by omega), List.getElem?_eq_none (by omega)]
end Go.Proofs.YtngfnokbdcjoeaaGreatDoor
end
section
namespace Go.Shp
open Go.Lex
mutual
def allS (p : Shape → Bool) : Shape → Bool
 | .mk k o n ns ps => p (.mk k o n ns ps) && allSL p ps
def allSL (p : Shape → Bool) : List Shape → Bool
 | [] => true
 | s :: r => allS p s && allSL p r
end
mutual
theorem allS_fits : ∀ s : Shape, allS fits s = allFit s
 | .mk k o n ns ps => by rw [allS, allFit, allSL_fits ps]
theorem allSL_fits : ∀ l : List Shape, allSL fits l = allFits l
 | [] => by rw [allSL, allFits]
 | s :: r => by rw [allSL, allFits, allS_fits s, allSL_fits r]
end
theorem allSL_mem {p : Shape → Bool} : ∀ {l : List Shape} {s : Shape}, allSL p l = true → s ∈ l → allS p s = true
 | x :: r, s, h, hs => by
  rw [allSL, Bool.and_eq_true] at h
  rcases List.mem_cons.1 hs with rfl | hs
  ·exact h.1
  ·exact allSL_mem h.2 hs
theorem allSL_of {p : Shape → Bool} : ∀ {l : List Shape}, (∀ s ∈ l, allS p s = true) → allSL p l = true
 | [], _ => by rw [allSL]
 | x :: r, h => by rw [allSL, h x (List.mem_cons_self ..), allSL_of fun s hs => h s (List.mem_cons_of_mem _ hs)]; rfl
end Go.Shp
namespace Go.Proofs.YtngfnokbdcjoeaaGreatDoor
open Go.Lift Go.Lex Go.Shp
def PredS (M : Nat) (fv : Value) (p : Shape → Bool) : Prop := ∃ f, fv = .func (.func f) #[] #[] ∧ (resOf Tryz.prog f).isSome = true ∧ ∀ (s : Shape), size s ≤ M → ∀ {w : World} {k : Int} {o n : ByteArray} {ns ps : Sl}, ShV w k o n ns ps s → AnsB f #[shArg k o n ns ps] w (p s)
theorem callPS_ok {w : World} {R : Ending → World → Prop} {M : Nat} {fv : Value} {p : Shape → Bool} (hp : PredS M fv p) {s : Shape} (hM : size s ≤ M) {k : Int} {o n : ByteArray} {ns ps : Sl} (hv : ShV w k o n ns ps s) {K : Bool → G} (h : ∀ w', Fr noB w w' → K (p s) R w') : callVG Tryz.prog fv #[shArg k o n ns ps] [.one .bool] K R w := by
 obtain ⟨f, rfl, hr, hf⟩ := hp
 exact callBV_ok hr (hf s hM hv) h
theorem sall_ok {M : Nat} {fv : Value} {p : Shape → Bool} (hp : PredS M fv p) : ∀ (d : Nat) (s : Shape), size s ≤ d → d ≤ M → ∀ {w : World} {k : Int} {o n : ByteArray} {ns ps : Sl}, ShV w k o n ns ps s →
  AnsB 54 #[shArg k o n ns ps, fv] w (allS p s)
 | 0, s, h, _, _, _, _, _, _, _, _ => by have := size_pos s; omega
 | d + 1, .mk k' o' n' names parts, hd, hM, w, k, o, n, ns, ps, hv => by
  rw [size_mk] at hd
  obtain ⟨_, _, _, ⟨_, _, hpn, hpl, _⟩, hps⟩ := hv.parts
  change ps.n = parts.length at hpn
  change parts.length < 4611686018427387904 at hpl
  change ShL w ps.a 0 parts at hps
  apply c54
  unfold t54 wrZ shZ ldLZ ld5mZ ld5xZ st5Z nw5Z nz5Z caBZ jn0Z lpIZ ixZ
  refine new_ok fun w1 m6 hm6 hs1 B1 F1 => ?_
  change Blk w1 m6 _ (shCells k o n ns ps) at B1
  refine B1.ldV (callPS_ok hp (by rw [size_mk]; omega) (hv.fr F1) fun w2 F2 => ?_)
  have F12 := F1.tr F2
  have hall : allS p (.mk k' o' n' names parts) = (p (.mk k' o' n' names parts) && allSL p parts) := by rw [allS]
  rw [hall]
  by_cases hf : p (.mk k' o' n' names parts) = true
  rotate_left
  ·have hf : p (.mk k' o' n' names parts) = false := by simpa using hf
   exact ite_yes (by rw [hf]; rfl) ⟨by rw [hf]; rfl, F12⟩
  rw [hf, Bool.true_and]
  refine ite_no rfl ((B1.fr F2 (fun h => h)).ldS (o := 4) rfl ?_)
  refine join0_ok (fun w' => allSL p parts = true ∧ Fr noB w w') (fun kend hkend => ?_) (fun w' ⟨h, F⟩ => ⟨by rw [h], F⟩)
  refine countL_ok parts.length (by omega) (fun i w' => (∀ (j : Nat) s, j < i → parts[j]? = some s → allS p s = true) ∧ Fr noB w w') (fun rec i w3 hi hI hrec => ?_) ⟨fun j s h => by omega, F12⟩
  obtain ⟨hdone, F3⟩ := hI
  refine ite_ok (fun hlt => ?_) fun hge => hkend _ ⟨allSL_of fun s hs => ?_, F3⟩
  ·have hlt : (i : Int) < (ps.n : Int) := of_decide_eq_true hlt
   obtain ⟨s, hs⟩ : ∃ s, parts[i]? = some s := ⟨_, List.getElem?_eq_getElem (by omega)⟩
   have hsz := size_mem (List.mem_of_getElem? hs)
   refine join_in (vs := []) (part_ld0 hps F3 hs hpn fun k1 o1 n1 ns1 ps1 hv1 => new_ok fun w4 m24 hm24 hs4 B4 F4 => fill_ok B4 rfl rfl rfl rfl rfl rfl fun w5 B5 F5 => ?_)
   have G5 : Fr noB w w5 := (F3.tr F4).fill (by have := F3.size; omega) F5
   change Blk w5 m24 _ (shCells k1 o1 n1 ns1 ps1) at B5
   refine B5.ldV (callB_ok (sall_ok hp d s (by omega) (by omega) (hv1.fr G5)) fun w6 F6 => ?_)
   by_cases hok : allS p s = true
   ·refine ite_no (by rw [hok]; rfl) (hrec (by omega) _ ⟨fun j x hj hx => ?_, G5.tr F6⟩)
    rcases Nat.lt_succ_iff_lt_or_eq.1 hj with hj | rfl
    ·exact hdone j x hj hx
    ·rw [hs] at hx
     cases hx
     exact hok
   ·refine ite_yes (by simpa using hok) ⟨?_, G5.tr F6⟩
    have : allSL p parts = false := by
     rw [Bool.eq_false_iff]
     intro h
     exact hok (allSL_mem h (List.mem_of_getElem? hs))
    rw [this]
  ·have hge : ¬ (i : Int) < (ps.n : Int) := of_decide_eq_false hge
   obtain ⟨j, hj⟩ := List.mem_iff_getElem?.1 hs
   have := (List.getElem?_eq_some_iff.1 hj).1
   exact hdone j s (by omega) hj
theorem splain_ok (x : ByteArray) {w : World} : AnsB 87 #[.string x] w (plainT (bl x)) := by
 apply c87
 unfold t87 jnBZ
 have hp : plainT (bl x) = ((bl x) == [73, 110, 116] || (bl x) == [66, 111, 111, 108] || (bl x) == [84, 101, 120, 116] || (bl x) == [65, 110, 121]) := rfl
 refine join1_ok (c := .bool) (fun (b : Bool) w' => b = plainT (bl x) ∧ Fr noB w w') (fun kj hkj => ?_) (fun b w' h => done_b h)
 have R0 := Fr.refl noB w
 rw [eq_bl, show bl (ByteArray.mk #[(73 : UInt8), (110 : UInt8), (116 : UInt8)]) = [73, 110, 116] from rfl]
 refine ite_ok (fun h => hkj _ _ ⟨by rw [hp, h]; rfl, R0⟩) fun h1 => ?_
 rw [eq_bl, show bl (ByteArray.mk #[(66 : UInt8), (111 : UInt8), (111 : UInt8), (108 : UInt8)]) = [66, 111, 111, 108] from rfl]
 refine ite_ok (fun h => hkj _ _ ⟨by rw [hp, h1, h]; rfl, R0⟩) fun h2 => ?_
 rw [eq_bl, show bl (ByteArray.mk #[(84 : UInt8), (101 : UInt8), (120 : UInt8), (116 : UInt8)]) = [84, 101, 120, 116] from rfl]
 refine ite_ok (fun h => hkj _ _ ⟨by rw [hp, h1, h2, h]; rfl, R0⟩) fun h3 => hkj _ _ ⟨?_, R0⟩
 rw [eq_bl, show bl (ByteArray.mk #[(65 : UInt8), (110 : UInt8), (121 : UInt8)]) = [65, 110, 121] from rfl, hp, h1, h2, h3]
 rfl
end Go.Proofs.YtngfnokbdcjoeaaGreatDoor
end
section

end
section
namespace Go.Shp
theorem sizes_take {l : List Shape} {i : Nat} {s : Shape} (h : l[i]? = some s) : sizes (l.take (i + 1)) = sizes (l.take i) + size s := by
 induction l generalizing i with
 | nil => simp at h
 | cons x r ih =>
  cases i with
  | zero =>
   simp only [List.getElem?_cons_zero, Option.some.injEq] at h
   subst h
   simp only [List.take_succ_cons, List.take_zero, sizes]
   omega
  | succ i =>
   rw [List.take_succ_cons, List.take_succ_cons, sizes, sizes, ih (by simpa using h), Nat.add_assoc]
theorem sizes_take_le (l : List Shape) (i : Nat) : sizes (l.take i) ≤ sizes l := by
 induction l generalizing i with
 | nil => simp
 | cons x r ih =>
  cases i with
  | zero => rw [List.take_zero, sizes]; omega
  | succ i => have := ih i; rw [List.take_succ_cons, sizes, sizes]; omega
end Go.Shp
namespace Go.Lift
theorem Fr.ob {a b : World} {m : Nat} (h : Fr noB a b) : Fr (oneB m) a b := h.mono fun _ _ h => h.elim
end Go.Lift
namespace Go.Proofs.YtngfnokbdcjoeaaGreatDoor
open Go.Lift Go.Lex Go.Shp
def fullC : List PanicEntry := [{ v := .iface 91 (.agg #[]), recovered := false }]
def MetP (b : Nat) (T : TypeId) (c m : Nat) (v : Value) (w : World) (e : Ending) (w' : World) : Prop :=
 Fr (oneB b) w w' ∧ ((c + m ≤ 400 ∧ e = .returned v ∧ Blk w' b T [.int .i64 ((c + m : Nat) : Int)]) ∨ (400 < c + m ∧ e = .panicked fullC ∧ ∃ x : Int, Blk w' b T [.int .i64 x]))
theorem smeet_ok {w : World} {b : Nat} {T : TypeId} {c : Nat} (B : Blk w b T [.int .i64 (c : Int)]) (hc : c ≤ 400) : Calls Tryz.prog 85 #[.pointer (some ⟨b, 0, none⟩)] w (MetP b T c 1 (.tuple #[]) w) := by
 apply c85
 unfold t85 wrZ ivZ ldIZ jn0Z
 refine B.ld (c := .int .i64) (x := (c : Int)) (o := 0) rfl (B.st rfl (by simp) fun w1 B1 F1 => ?_)
 have ew : IntKind.wrap .i64 ((c : Int) + 1) = ((c + 1 : Nat) : Int) := by rw [wrap_ok (by omega) (by omega)]; omega
 rw [ew] at B1
 refine B1.ld (c := .int .i64) (x := ((c + 1 : Nat) : Int)) (o := 0) rfl (join_in (vs := []) (ite_ok (fun h => ?_) fun h => ?_))
 ·have h : ((c + 1 : Nat) : Int) > 400 := of_decide_eq_true h
  exact ⟨⟨_, _, rfl⟩, F1, .inr ⟨by omega, rfl, _, B1⟩⟩
 ·have h : ¬ ((c + 1 : Nat) : Int) > 400 := of_decide_eq_false h
  exact ⟨F1, .inl ⟨by omega, rfl, B1⟩⟩
theorem resMeet : (resOf Tryz.prog 85).isSome = true := by kernel_rfl
theorem swalk_ok : ∀ (d : Nat) (s : Shape), size s ≤ d → ∀ {w0 w : World} {b : Nat} {T : TypeId} {c lv : Nat} {k : Int} {o n : ByteArray} {ns ps : Sl}, ShV w0 k o n ns ps s → Fr noB w0 w → w0.heap.size ≤ b → Blk w b T [.int .i64 (c : Int)] → c ≤ 400 → lv ≤ c + 1 →
  Calls Tryz.prog 84 #[shArg k o n ns ps, .int .i64 (lv : Int), .func (.func 85) #[] #[.pointer (some ⟨b, 0, none⟩)]] w (MetP b T c (size s) (.int .i64 ((lv + deep s - 1 : Nat) : Int)) w)
 | 0, s, h, _, _, _, _, _, _, _, _, _, _, _, _, _, _, _, _, _ => by have := size_pos s; omega
 | d + 1, .mk k' o' n' names parts, hd, w0, w, b, T, c, lv, k, o, n, ns, ps, hv, F0, hb, B, hc, hlv => by
  rw [size_mk] at hd
  obtain ⟨_, _, _, ⟨_, _, hpn, hpl, _⟩, hps⟩ := hv.parts
  change ps.n = parts.length at hpn
  change parts.length < _ at hpl
  change ShL w0 ps.a 0 parts at hps
  have hbl := B.lt
  apply c84
  unfold t84 wrZ ivZ shZ ldLZ ld5mZ ld5xZ st5Z nw5Z nz5Z caIZ jnIZ lpIIZ ixZ
  refine new_ok fun w1 m7 hm7 hs1 C1 F1 => ?_
  change Blk w1 m7 _ (shCells k o n ns ps) at C1
  have B1 := B.fr F1 (fun h => h)
  refine ⟨_, #[], _, rfl, resMeet, ?_⟩
  refine (smeet_ok B1 hc).mono ?_
  rintro e w2 ⟨F2, ⟨hle, rfl, B2⟩ | ⟨hgt, rfl, x, B2⟩⟩
  rotate_left
  ·exact .inr ⟨_, rfl, st_fr F1.ob F2, .inr ⟨by rw [size_mk]; omega, rfl, x, B2⟩⟩
  refine .inl ⟨(), rfl, ?_⟩
  have G2 := st_fr F1.ob F2
  refine (C1.fr F2 (show ¬ m7 = b by omega)).ldS (o := 4) rfl ?_
  refine join1_ok (c := .int .i64) (fun (y : Int) w' => y = ((lv + deeps parts : Nat) : Int) ∧ c + 1 + sizes parts ≤ 400 ∧ Fr (oneB b) w w' ∧ Blk w' b T [.int .i64 ((c + 1 + sizes parts : Nat) : Int)]) (fun kend hkend => ?_) ?_
  rotate_left
  ·rintro y w' ⟨rfl, hle', G, B'⟩
   refine ⟨G, .inl ⟨by rw [size_mk]; omega, ?_, ?_⟩⟩
   ·rw [deep_mk]
    congr 3
    omega
   ·rw [size_mk, show c + (1 + sizes parts) = c + 1 + sizes parts by omega]
    exact B'
  refine loop_ok (vs := [.one (.int .i64), .one (.int .i64)]) (fun xs w' => ∃ i : Nat, i ≤ parts.length ∧ (show Int from xs.2.1.1) = (i : Int) ∧ (show Int from xs.1.1) = ((lv + deeps (parts.take i) : Nat) : Int) ∧ c + 1 + sizes (parts.take i) ≤ 400 ∧ Fr (oneB b) w w' ∧ Blk w' b T [.int .i64 ((c + 1 + sizes (parts.take i) : Nat) : Int)])
   (fun xs => parts.length - (show Int from xs.2.1.1).toNat) ?_ (xs := (((lv : Int), ()), (((0 : Int), ()), ()))) ⟨0, Nat.zero_le _, rfl, by rw [List.take_zero, deeps]; rfl, by rw [List.take_zero, sizes]; omega, G2, by rw [List.take_zero, sizes]; exact B2⟩
  rintro rec ⟨⟨y, ⟨⟩⟩, ⟨⟨z, ⟨⟩⟩, ⟨⟩⟩⟩ w3 ⟨i, hi, hz, hy, hle3, G3, B3⟩ hrec
  change z = (i : Int) at hz
  change y = _ at hy
  subst hz hy
  refine ite_ok (fun hlt => ?_) fun hge => ?_
  ·have hlt : (i : Int) < (ps.n : Int) := of_decide_eq_true hlt
   obtain ⟨s, hs⟩ : ∃ s, parts[i]? = some s := ⟨_, List.getElem?_eq_getElem (by omega)⟩
   have hsz := size_mem (List.mem_of_getElem? hs)
   have K3 : Fr noB w0 w3 := F0.then G3 (fun x hx hxb => by unfold oneB at hxb; omega)
   have hds := deep_pos s
   have hdz := deep_size s
   have hdt := deeps_sizes (parts.take i)
   have e1 := sizes_take hs
   have e2 := deeps_take hs
   have hle4 := sizes_take_le parts (i + 1)
   refine join_in (vs := [.one (.int .i64)]) (part_ld0 hps K3 hs hpn fun k1 o1 n1 ns1 ps1 hv1 => new_ok fun w4 m24 hm24 hs4 B4 F4 => fill_ok B4 rfl rfl rfl rfl rfl rfl fun w5 B5 F5 => ?_)
   change Blk w5 m24 _ (shCells k1 o1 n1 ns1 ps1) at B5
   have hsz3 := G3.size
   have F35 : Fr noB w3 w5 := F4.fill (by omega) F5
   have ew : IntKind.wrap .i64 ((lv : Int) + 1) = ((lv + 1 : Nat) : Int) := by rw [wrap_ok (by omega) (by omega)]; omega
   rw [ew]
   refine B5.ldV (callPan_ok (swalk_ok d s (by omega) hv1 (K3.tr F35) hb (B3.fr F35 fun h => h) hle3 (by omega)) ?_)
   rintro e w6 ⟨F6, ⟨hle6, rfl, B6⟩ | ⟨hgt, rfl, x, B6⟩⟩
   ·refine .inl ⟨((_, ()), ()), rfl, ?_⟩
    have G6 := st_fr (st_fr G3 F35.ob) F6
    have ew2 : IntKind.wrap .i64 ((i : Int) + 1) = ((i + 1 : Nat) : Int) := by rw [wrap_ok (by omega) (by omega)]; omega
    refine hrec ((_, ()), ((_, ()), ())) _ ⟨i + 1, by omega, ew2, ?_, by omega, G6, ?_⟩ ?_
    ·rw [e2]
     show (if ((lv + 1 + deep s - 1 : Nat) : Int) > ((lv + deeps (parts.take i) : Nat) : Int) then ((lv + 1 + deep s - 1 : Nat) : Int) else ((lv + deeps (parts.take i) : Nat) : Int)) = _
     split <;> omega
    ·rw [e1, show c + 1 + (sizes (parts.take i) + size s) = c + 1 + sizes (parts.take i) + size s by omega]
     exact B6
    ·show parts.length - (IntKind.wrap .i64 ((i : Int) + 1)).toNat < parts.length - (i : Int).toNat
     rw [ew2]
     simp only [Int.toNat_natCast]
     omega
   ·exact .inr ⟨_, rfl, st_fr (st_fr G3 F35.ob) F6, .inr ⟨by rw [size_mk]; omega, rfl, x, B6⟩⟩
  ·have hge : ¬ (i : Int) < (ps.n : Int) := of_decide_eq_false hge
   have : i = parts.length := by omega
   subst this
   rw [List.take_length] at hle3 B3 ⊢
   exact hkend _ _ ⟨rfl, hle3, G3, B3⟩
end Go.Proofs.YtngfnokbdcjoeaaGreatDoor
end
section
namespace Go.Shp
end Go.Shp
namespace Go.Proofs.YtngfnokbdcjoeaaGreatDoor
open Go.Lift Go.Lex Go.Shp
end Go.Proofs.YtngfnokbdcjoeaaGreatDoor
end
