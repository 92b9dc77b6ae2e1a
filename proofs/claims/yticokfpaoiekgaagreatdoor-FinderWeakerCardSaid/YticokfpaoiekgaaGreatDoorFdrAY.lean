/- The law behind: one part of its proof (joined by program out of my own texts). No condition. -/
import Derived.Test.YticokfpaoiekgaaGreatDoorFdrAX
section
namespace Go.Proofs.YticokfpaoiekgaaGreatDoor
open Go.Lift Go.Lex Go.Shp Go.Prs
theorem set_mid {α : Type} (A z C : List α) (c : Nat) (x : α) (hc : c < z.length) : (A ++ (z ++ C)).set (A.length + c) x = A ++ (z.set c x ++ C) := by
 rw [List.set_append, if_neg (by omega), Nat.add_sub_cancel_left, List.set_append, if_pos hc]
theorem own_set5 {w : World} {l : Sl} {V : List TV} {z : List Value} (hz : z.length = 5) (own : w.ownsRow 0 25 5 (.slice l.a l.n l.c) (V.length + 1) (V.flatMap tvCells ++ z)) :
  ∃ g, l.a = some ⟨g, 0, none⟩ ∧ l.n = V.length + 1 ∧ ∀ (v : TV) {K : G} {R : Ending → World → Prop} {w1 : World}, w1.ownsRow 0 25 5 (.slice l.a l.n l.c) (V.length + 1) (V.flatMap tvCells ++ z) →
   (∀ w', w'.ownsRow 0 25 5 (.slice l.a l.n l.c) (V ++ [v]).length ((V ++ [v]).flatMap tvCells) → Fr (oneB g) w1 w' → K R w') →
   stG ⟨g, V.length * 5, none⟩ (.int .i64 v.1) (stG ⟨g, V.length * 5 + 1, none⟩ (.string v.2.1) (stG ⟨g, V.length * 5 + 2, none⟩ (.string v.2.2.1) (stG ⟨g, V.length * 5 + 3, none⟩ (.slice v.2.2.2.1.a v.2.2.2.1.n v.2.2.2.1.c) (stG ⟨g, V.length * 5 + 4, none⟩ (.slice v.2.2.2.2.a v.2.2.2.2.n v.2.2.2.2.c) K)))) R w1 := by
 rcases own.2 with ⟨h1, h2⟩ | ⟨g, cap, cur, h1, h0, hg, h3, h4, h5, h6⟩
 ·omega
 obtain ⟨la, ln, lc⟩ := l
 cases h1
 refine ⟨g, rfl, rfl, fun v {K R w1} own1 hk => ?_⟩
 rcases own1.2 with ⟨q1, q2⟩ | ⟨g', cap', cur', q1, q0, qg, q3, q4, q5, q6⟩
 ·omega
 cases q1
 have hfl : (V.flatMap tvCells).length = V.length * 5 := flat_length tvCells 5 (fun _ _ => rfl)
 have hB : Blk w1 g 25 (V.flatMap tvCells ++ (z ++ cur'.toList.drop ((V.length + 1) * 5))) := by
  unfold Blk
  rw [qg, ← List.append_assoc, ← q6, List.take_append_drop]
 match z, hz with
 | [z0, z1, z2, z3, z4], _ =>
  have hlen : (V.flatMap tvCells ++ ([z0, z1, z2, z3, z4] ++ cur'.toList.drop ((V.length + 1) * 5))).length = V.length * 5 + 5 + (cur'.toList.drop ((V.length + 1) * 5)).length := by
   rw [List.length_append, hfl, List.length_append]
   simp only [List.length_cons, List.length_nil]
   omega
  have e : ∀ (c : Nat) (x : Value) (y : List Value), c < y.length → (V.flatMap tvCells ++ (y ++ cur'.toList.drop ((V.length + 1) * 5))).set (V.length * 5 + c) x = V.flatMap tvCells ++ (y.set c x ++ cur'.toList.drop ((V.length + 1) * 5)) := fun c x y hc => by
   rw [← hfl]
   exact set_mid _ _ _ c x hc
  have hin : ∀ (y : List Value) (c : Nat), y.length = 5 → c < 5 → V.length * 5 + c < (V.flatMap tvCells ++ (y ++ cur'.toList.drop ((V.length + 1) * 5))).length := fun y c hy hc => by
   rw [List.length_append, hfl, List.length_append]
   omega
  refine hB.st rfl (hin [z0, z1, z2, z3, z4] 0 rfl (by omega)) fun w2 B2 F2 => ?_
  rw [← Nat.add_zero (V.length * 5), e 0 _ [z0, z1, z2, z3, z4] (by simp)] at B2
  refine B2.st rfl (hin _ 1 rfl (by omega)) fun w3 B3 F3 => ?_
  rw [e 1 _ _ (by simp)] at B3
  refine B3.st rfl (hin _ 2 rfl (by omega)) fun w4 B4 F4 => ?_
  rw [e 2 _ _ (by simp)] at B4
  refine B4.st rfl (hin _ 3 rfl (by omega)) fun w5 B5 F5 => ?_
  rw [e 3 _ _ (by simp)] at B5
  refine B5.st rfl (hin _ 4 rfl (by omega)) fun w6 B6 F6 => ?_
  rw [e 4 _ _ (by simp)] at B6
  refine hk w6 ?_ (st_fr (st_fr (st_fr (st_fr F2 F3) F4) F5) F6)
  have hc2 : ((V ++ [v]).flatMap tvCells).length = (V ++ [v]).length * 5 := flat_length tvCells 5 (fun _ _ => rfl)
  have hvl : (V ++ [v]).length = V.length + 1 := by simp
  have hcs : (V ++ [v]).flatMap tvCells = V.flatMap tvCells ++ tvCells v := by simp
  refine ⟨hc2, .inr ⟨g, lc, _, by rw [hvl], Nat.zero_le _, B6, by rw [hvl]; exact q3, q4, ?_, ?_⟩⟩
  ·rw [List.size_toArray, List.length_append, hfl, List.length_append, List.length_drop]
   have q5' : cur'.toList.length = lc * 5 := q5
   change V.length + 1 ≤ lc at q3
   simp only [List.length_set, List.length_cons, List.length_nil]
   omega
  ·rw [List.toList_toArray, ← List.append_assoc, List.take_left' (by rw [hvl, List.length_append, hfl]; simp only [List.length_set, List.length_cons, List.length_nil]; omega), hcs]
   rfl
structure Bld (w : World) (mX m1 m3 p : Nat) (k : Int) (ns ps : Sl) (names : List B) (Q : List Shape) : Prop where
 b1 : ∃ T, Blk w m1 T [.pointer (some ⟨p, 0, none⟩)]
 b3 : Blk w m3 25 (shCells k eB eB ns ps)
 le : p < m1 ∧ p < m3 ∧ m1 ≤ mX ∧ m3 ≤ mX ∧ m1 < m3 ∧ mX < w.heap.size
 row : ∃ V, w.ownsRow 0 25 5 (.slice ps.a ps.n ps.c) V.length (V.flatMap tvCells) ∧ SP w (fun b => b ≤ mX ∨ (∃ a, ns.a = some a ∧ a.block = b) ∨ (∃ a, ps.a = some a ∧ a.block = b)) V Q
 ownN : w.ownsRow 0 9 1 (.slice ns.a ns.n ns.c) names.length (names.map fun x => Value.string (bs x))
 belN : ∀ a, ns.a = some a → mX < a.block ∧ a.block < w.heap.size
 belP : ∀ a, ps.a = some a → mX < a.block ∧ a.block < w.heap.size
 apart : ∀ a c, ns.a = some a → ps.a = some c → a.block ≠ c.block
 nz : ∀ x ∈ names, x.length < 4611686018427387904
theorem SP.snoc {w : World} {S : Nat → Prop} {V : List TV} {Q : List Shape} {v : TV} {q : Shape} (h : SP w S V Q) (h1 : ∀ w', Fr S w w' → ShT w' v q) : SP w S (V ++ [v]) (Q ++ [q]) := by
 refine ⟨by rw [List.length_append, List.length_append, h.1]; rfl, fun j a b ha hb w' F => ?_⟩
 rcases Nat.lt_or_ge j V.length with hj | hj
 ·rw [List.getElem?_append_left hj] at ha
  rw [List.getElem?_append_left (by have := h.1; omega)] at hb
  exact h.2 j a b ha hb w' F
 ·rw [List.getElem?_append_right hj] at ha
  rw [List.getElem?_append_right (by have := h.1; omega)] at hb
  have hl := h.1
  have hj0 : j - V.length = 0 := by
   have := (List.getElem?_eq_some_iff.1 ha).1
   simp at this
   omega
  rw [hj0] at ha
  rw [show j - Q.length = 0 by omega] at hb
  simp at ha hb
  subst ha hb
  exact h1 w' F
section
variable {R : Ending → World → Prop} {w : World} {mX m1 m3 p : Nat} {k : Int} {ns ps : Sl} {names : List B} {Q : List Shape}
theorem Bld.fr (I : Bld w mX m1 m3 p k ns ps names Q) {w' : World} (F : Fr (oneB p) w w') : Bld w' mX m1 m3 p k ns ps names Q := by
 obtain ⟨l1, l2, l3, l4, l5, l6⟩ := I.le
 have hz := F.size
 obtain ⟨V, oP, sP⟩ := I.row
 obtain ⟨T, b1⟩ := I.b1
 refine ⟨⟨T, b1.fr F (fun h => by change m1 = p at h; omega)⟩, I.b3.fr F (fun h => by change m3 = p at h; omega), ⟨l1, l2, l3, l4, l5, by omega⟩, ⟨V, own_cells oP F fun a ha h => ?_, sP.go (F.mono fun x _ h => .inl (by change x = p at h; omega)) fun x _ h => h⟩, own_cells I.ownN F fun a ha h => ?_, fun a ha => ?_, fun a ha => ?_, I.apart, I.nz⟩
 ·have := I.belP a ha
  change a.block = p at h
  omega
 ·have := I.belN a ha
  change a.block = p at h
  omega
 ·have := I.belN a ha
  omega
 ·have := I.belP a ha
  omega
theorem Bld.fr0 (I : Bld w mX m1 m3 p k ns ps names Q) {w' : World} (F : Fr noB w w') : Bld w' mX m1 m3 p k ns ps names Q := I.fr (F.mono fun _ _ h => h.elim)
abbrev zeroS : Array Value := #[.int .i64 0, .string (ByteArray.mk #[]), .string (ByteArray.mk #[]), .slice none 0 0, .slice none 0 0]
theorem pushEnd_ok {sl : Sl} {l : List Tok} {s1 : PS} (I : Bld w mX m1 m3 p k ns ps names Q) (hQ : Q.length ≤ 100000) (C : Cur w p sl l s1) {m : Nat} (M : Blk w m 25 zeroS.toList) (_ : mX < m) {k1 : Int} {o1 n1 : ByteArray} {ns1 ps1 : Sl} {q : Shape}
  (hv : ∀ w', Fr (fun b => b ≤ mX ∨ (∃ a, ns.a = some a ∧ a.block = b) ∨ (∃ a, ps.a = some a ∧ a.block = b)) w w' → ShV w' k1 o1 n1 ns1 ps1 q) {K : G}
  (hk : ∀ ps' w', Bld w' mX m1 m3 p k ns ps' names (Q ++ [q]) → Cur w' p sl l s1 → Fr (fun b => b = m3 ∨ ∃ a, ps.a = some a ∧ a.block = b) w w' → K R w') :
  opG Tryz.prog (Builtin.append_ #[23, 23] 23 #[.slice ps.a ps.n ps.c, .slice (some ⟨m, 0, none⟩) 1 1]) (.one .slice) (fun (l10 : Sl) => idxG l10.a l10.n ((ps.n : Nat) : Int) 5 fun (a11 : Addr) => bothG
   (stG (a11.add 0) (.int .i64 k1) (stG (a11.add 1) (.string o1) (stG (a11.add 2) (.string n1) (stG (a11.add 3) (.slice ns1.a ns1.n ns1.c) (stG (a11.add 4) (.slice ps1.a ps1.n ps1.c) (stG ⟨m3, 4, none⟩ (.slice l10.a l10.n l10.c) K))))))
   (stG ⟨m3, 4, none⟩ (.slice l10.a l10.n l10.c) (stG (a11.add 0) (.int .i64 k1) (stG (a11.add 1) (.string o1) (stG (a11.add 2) (.string n1) (stG (a11.add 3) (.slice ns1.a ns1.n ns1.c) (stG (a11.add 4) (.slice ps1.a ps1.n ps1.c) K))))))) R w := by
 obtain ⟨iP, zP, hiP, hzP, p1, p2, p3⟩ := infoShape
 obtain ⟨l1, l2, l3, l4, l5, l6⟩ := I.le
 obtain ⟨V, oP, sP⟩ := I.row
 obtain ⟨T, b1⟩ := I.b1
 have hVQ := sP.1
 have hpn : ps.n = V.length := by
  obtain ⟨s', hs', hn, _⟩ := slice_of_own oP
  simp only [Value.slice.injEq] at hs'
  rw [hs'.2.1, hn]
 refine append_ok uShapes hiP hzP p1 p2 p3 (by omega) (s := ps) oP (m := 1) (news := zeroS.toList) rfl (M.held fun j v hj => by rw [Nat.zero_add]; exact hj) (fun u hu => ?_) (by unfold maxLen; omega) (by omega) fun l10 w2 own2 F2 ha2 => ?_
 ·simp only [List.mem_cons, List.not_mem_nil, or_false] at hu
  rcases hu with rfl | rfl | rfl | rfl | rfl <;> rfl
 have hz2 := F2.size
 obtain ⟨g, hga, hgn, hset⟩ := own_set5 (z := zeroS.toList) rfl own2
 have hgX : mX < g ∧ g < w2.heap.size ∧ (∀ a, ns.a = some a → a.block ≠ g) := by
  rcases ha2 _ hga with h | h
  ·have := I.belP _ h
   exact ⟨this.1, by have := this.2; change g < _ at this; omega, fun a ha => I.apart a _ ha h⟩
  ·change _ ≤ g ∧ g < _ at h
   exact ⟨by omega, h.2, fun a ha => by have := (I.belN a ha).2; omega⟩
 have B3 : Blk w2 m3 _ (shCells k eB eB ns ps) := I.b3.fr F2 fun ⟨a, h1, h2⟩ => by have := (I.belP a h1).1; omega
 have fin : ∀ w4, Fr (fun b => b = g ∨ b = m3) w2 w4 → Blk w4 m3 25 (shCells k eB eB ns l10) → w4.ownsRow 0 25 5 (.slice l10.a l10.n l10.c) (V ++ [(k1, o1, n1, ns1, ps1)]).length ((V ++ [(k1, o1, n1, ns1, ps1)]).flatMap tvCells) → K R w4 := by
  intro w4 F4 B4 own4
  have hz4 := F4.size
  have F24 : Fr (fun b => b = m3 ∨ ∃ a, ps.a = some a ∧ a.block = b) w w4 := by
   refine (F2.trans F4).mono fun x hx h => ?_
   rcases h with h | ⟨h | h, h3⟩
   ·exact .inr h
   ·subst h
    rcases ha2 _ hga with h | h
    ·exact .inr ⟨_, h, rfl⟩
    ·change _ ≤ x ∧ _ at h
     omega
   ·exact .inl h
  have FS : Fr (fun b => b ≤ mX ∨ (∃ a, ns.a = some a ∧ a.block = b) ∨ (∃ a, ps.a = some a ∧ a.block = b)) w w4 := F24.mono fun x _ h => h.elim (fun h => .inl (by omega)) fun h => .inr (.inr h)
  have hS : ∀ x, x < w.heap.size → (x ≤ mX ∨ (∃ a, ns.a = some a ∧ a.block = x) ∨ (∃ a, l10.a = some a ∧ a.block = x)) → (x ≤ mX ∨ (∃ a, ns.a = some a ∧ a.block = x) ∨ (∃ a, ps.a = some a ∧ a.block = x)) := by
   rintro x hx (h | h | ⟨a, h1, h2⟩)
   ·exact .inl h
   ·exact .inr (.inl h)
   ·rcases ha2 a h1 with h | h
    ·exact .inr (.inr ⟨a, h, h2⟩)
    ·omega
  refine hk l10 w4 ⟨⟨T, b1.fr F24 fun h => ?_⟩, B4, ⟨l1, l2, l3, l4, l5, by omega⟩, ⟨_, own4, SP.snoc (sP.go FS hS) fun w' F' => hv w' (FS.then F' hS)⟩, own_cells I.ownN F24 fun a ha h => ?_, fun a ha => ?_, fun a ha => ?_, fun a c ha hc => ?_, I.nz⟩ (C.fr F24 fun b hb h => ?_) F24
  ·rcases h with h | ⟨a, h1, h2⟩
   ·omega
   ·have := (I.belP a h1).1
    omega
  ·rcases h with h | ⟨c, h1, h2⟩
   ·have := (I.belN a ha).1
    omega
   ·exact I.apart a c ha h1 h2.symm
  ·have := I.belN a ha
   omega
  ·rw [hga] at ha
   cases ha
   exact ⟨hgX.1, by show g < _; omega⟩
  ·rw [hga] at hc
   cases hc
   exact hgX.2.2 a ha
  ·rcases h with h | ⟨a, h1, h2⟩
   ·omega
   ·have := (I.belP a h1).1
    omega
 rw [hga, hgn, hpn]
 refine idxB_ok (n := V.length + 1) (i := V.length) (by omega) ?_
 simp only [Addr.add_lit, Nat.zero_add, Nat.add_zero]
 have hgm : g ≠ m3 := by omega
 refine both_ok ?_ ?_
 ·refine hset (k1, o1, n1, ns1, ps1) own2 fun w3 own3 F3 => ?_
  refine (B3.fr F3 (fun h => hgm h.symm)).st (o := 4) rfl (by simp [shCells]) fun w4 B4 F4 => ?_
  rw [← hga, ← hgn] at B4
  refine fin w4 ((F3.trans F4).mono fun x _ h => h.elim .inl fun h => .inr h.1) B4 (own_cells own3 F4 fun a ha h => ?_)
  rw [hga] at ha
  cases ha
  exact hgm h
 ·refine B3.st (o := 4) rfl (by simp [shCells]) fun w3 B3' F3 => ?_
  have own3 := own_cells own2 F3 fun a ha h => by
   rw [hga] at ha
   cases ha
   exact hgm h
  refine hset (k1, o1, n1, ns1, ps1) own3 fun w4 own4 F4 => ?_
  have B4 := B3'.fr F4 (fun h => hgm h.symm)
  rw [← hga, ← hgn] at B4
  exact fin w4 ((F3.trans F4).mono fun x _ h => h.elim .inr fun h => .inl h.1) B4 own4
end
end Go.Proofs.YticokfpaoiekgaaGreatDoor
end
section
namespace Go.Prs
open Go.Lex Go.Shp
theorem fail_at (e a : Nat) (s : PS) : (fail e a s).at' = s.at' := by unfold fail; split <;> rfl
theorem must_mono (l : List Tok) (x : B) (s : PS) : s.at' ≤ (must l x s).at' := by
 unfold must
 split
 ·exact Nat.le_succ _
 ·rw [fail_at]
  exact Nat.le_refl _
theorem take_mono (l : List Tok) (k : Nat) (s : PS) : s.at' ≤ (take l k s).2.at' := by
 unfold take
 split
 ·show _ ≤ (fail 90 _ s).at'
  rw [fail_at]
  exact Nat.le_refl _
 ·exact Nat.le_succ _
theorem fresh_mono (l : List Tok) (ns : List B) (s : PS) : s.at' ≤ (fresh l ns s).2.at' := by
 have h := take_mono l 1 s
 unfold fresh
 dsimp only
 split
 ·show _ ≤ (fail 111 _ _).at'
  rw [fail_at]
  exact h
 ·exact h
theorem loopL_mono {α : Type} {l : List Tok} {b t : B} {one : α → PS → α × PS} (h1 : ∀ a s, s.at' ≤ (one a s).2.at') : ∀ (n : Nat) (a : α) (s : PS), s.at' ≤ (loopL l b t one n a s).2.at'
 | 0, _, _ => Nat.le_refl _
 | n + 1, a, s => by
  unfold loopL
  split
  ·exact Nat.le_refl _
  ·dsimp only
   split
   ·exact Nat.le_trans (h1 a s) (Nat.le_succ _)
   ·exact Nat.le_trans (Nat.le_trans (h1 a s) (must_mono _ _ _)) (loopL_mono h1 n _ _)
theorem listL_mono {α : Type} {l : List Tok} {b t : B} {one : α → PS → α × PS} (h1 : ∀ a s, s.at' ≤ (one a s).2.at') (n : Nat) (a : α) (s : PS) : s.at' ≤ (listL l b t one n a s).2.at' := by
 unfold listL
 split
 ·exact Nat.le_succ _
 ·exact loopL_mono h1 n a s
def namedF (l : List Tok) (f : Nat) (a : List B × List Shape) (s : PS) : (List B × List Shape) × PS :=
 ((a.1 ++ [(fresh l a.1 s).1], a.2 ++ [(shapeF l f (must l [58] (fresh l a.1 s).2)).1]), (shapeF l f (must l [58] (fresh l a.1 s).2)).2)
def partF (l : List Tok) (f : Nat) (a : List Shape) (s : PS) : List Shape × PS := (a ++ [(shapeF l f s).1], (shapeF l f s).2)
def rowF (l : List Tok) (b t : B) (f : Nat) (s : PS) : (List B × List Shape) × PS := listL l b t (namedF l f) (l.length + 1) ([], []) (on s)
def argsF (l : List Tok) (f : Nat) (s : PS) : List Shape × PS := listL l [44] [41] (partF l f) (l.length + 1) [] (on s)
theorem shapeF_succ (l : List Tok) (f : Nat) (s : PS) : shapeF l (f + 1) s =
  if (peek l s.at').kind = 2 ∧ s.err = 0 then (upperS [] (peek l s.at').text, on s)
  else if (peek l s.at').kind = 1 ∧ s.err = 0 then (upperS (peek l s.at').text (take l 2 (must l [47] (on s))).1.text, (take l 2 (must l [47] (on s))).2)
  else if isT l [91] s then (.mk 5 [] [] [] [(shapeF l f (on s)).1], must l [93] (shapeF l f (on s)).2)
  else if isT l [123] s then (.mk 6 [] [] (rowF l [44] [125] f s).1.1 (rowF l [44] [125] f s).1.2, (rowF l [44] [125] f s).2)
  else if isT l [60] s then (.mk 7 [] [] (rowF l [124] [62] f s).1.1 (rowF l [124] [62] f s).1.2, (rowF l [124] [62] f s).2)
  else if isT l [40] s then (.mk 8 [] [] [] ((argsF l f s).1 ++ [(shapeF l f (must l [45, 62] (argsF l f s).2)).1]), (shapeF l f (must l [45, 62] (argsF l f s).2)).2)
  else (.mk 0 [] [] [] [], fail 90 (peek l s.at').at' s) := by
 rfl
theorem namedF_mono {l : List Tok} {f : Nat} (ih : ∀ s : PS, s.at' ≤ (shapeF l f s).2.at') (a : List B × List Shape) (s : PS) : s.at' ≤ (namedF l f a s).2.at' :=
 Nat.le_trans (Nat.le_trans (fresh_mono l _ s) (must_mono _ _ _)) (ih _)
theorem rowF_mono {l : List Tok} {f : Nat} (ih : ∀ s : PS, s.at' ≤ (shapeF l f s).2.at') (b t : B) (s : PS) : s.at' ≤ (rowF l b t f s).2.at' :=
 Nat.le_trans (Nat.le_succ s.at') (listL_mono (namedF_mono ih) _ _ (on s))
theorem argsF_mono {l : List Tok} {f : Nat} (ih : ∀ s : PS, s.at' ≤ (shapeF l f s).2.at') (s : PS) : s.at' ≤ (argsF l f s).2.at' :=
 Nat.le_trans (Nat.le_succ s.at') (listL_mono (one := partF l f) (fun _ s => ih s) _ _ (on s))
theorem ite_mono {α : Type} {c : Prop} [Decidable c] {x y : α × PS} {n : Nat} (hx : n ≤ x.2.at') (hy : n ≤ y.2.at') : n ≤ (if c then x else y).2.at' := by
 split
 ·exact hx
 ·exact hy
theorem shapeF_mono (l : List Tok) : ∀ (f : Nat) (s : PS), s.at' ≤ (shapeF l f s).2.at'
 | 0, _ => Nat.le_refl _
 | f + 1, s => by
  have ih := shapeF_mono l f
  have on1 : s.at' ≤ (on s).at' := Nat.le_succ _
  rw [shapeF_succ]
  refine ite_mono on1 (ite_mono (Nat.le_trans on1 (Nat.le_trans (must_mono l [47] _) (take_mono l 2 _))) (ite_mono (Nat.le_trans on1 (Nat.le_trans (ih _) (must_mono l [93] _))) (ite_mono (rowF_mono ih _ _ s) (ite_mono (rowF_mono ih _ _ s) (ite_mono (Nat.le_trans (Nat.le_trans (argsF_mono ih s) (must_mono l [45, 62] _)) (ih _)) ?_)))))
  show _ ≤ (fail 90 _ s).at'
  rw [fail_at]
  exact Nat.le_refl _
end Go.Prs
namespace Go.Proofs.YticokfpaoiekgaaGreatDoor
open Go.Lift Go.Lex Go.Shp Go.Prs
section
variable {R : Ending → World → Prop} {w : World} {mX m1 m3 p : Nat} {k : Int} {ns ps : Sl} {names : List B} {Q : List Shape} {sl : Sl} {l : List Tok} {s s1 : PS}
theorem Bld.lt (I : Bld w mX m1 m3 p k ns ps names Q) {x : Nat} (h : x ≤ mX ∨ (∃ a, ns.a = some a ∧ a.block = x) ∨ (∃ a, ps.a = some a ∧ a.block = x)) : x < w.heap.size := by
 have l6 := I.le.2.2.2.2.2
 rcases h with h | ⟨a, h1, h2⟩ | ⟨a, h1, h2⟩
 ·omega
 ·have := (I.belN a h1).2; omega
 ·have := (I.belP a h1).2; omega
theorem Bld.h1 (I : Bld w mX m1 m3 p k ns ps names Q) : Held w (⟨m1, 0, none⟩, [.pointer (some ⟨p, 0, none⟩)]) := by
 obtain ⟨T, b⟩ := I.b1
 exact held_one (b.cell (o := 0) rfl)
theorem Bld.h3 (I : Bld w mX m1 m3 p k ns ps names Q) : Held w (⟨m3, 4, none⟩, [.slice ps.a ps.n ps.c]) := held_one (I.b3.cell (o := 4) rfl)
theorem push_ok {f : FuncId} {q : Shape} (I : Bld w mX m1 m3 p k ns ps names Q) (hQ : Q.length ≤ 100000) (hcall : ∀ w1, Fr noB w w1 → Calls Tryz.prog f #[.pointer (some ⟨p, 0, none⟩)] w1 (ParP w1 p sl l q s1)) {K : G}
  (hk : ∀ ps' w', Bld w' mX m1 m3 p k ns ps' names (Q ++ [q]) → Cur w' p sl l s1 → Fr (fun b => b = p ∨ b = m3 ∨ ∃ a, ps.a = some a ∧ a.block = b) w w' → K R w') :
  ldG .slice ⟨m3, 4, none⟩ (fun (l2 : Sl) => ldG .ptr ⟨m1, 0, none⟩ fun (p3 : Option Addr) => bothG
   (callG Tryz.prog f #[.pointer p3] [.agg [.int .i64, .str, .str, .slice, .slice]] fun (k1 : Int) (o1 n1 : ByteArray) (ns1 ps1 : Sl) => keepG [(⟨m3, 4, none⟩, [.slice l2.a l2.n l2.c])] (newG (.cells zeroS 25 (0, 0)) fun m => keepG [(⟨m1, 0, none⟩, [.pointer p3]), (⟨m3, 4, none⟩, [.slice l2.a l2.n l2.c])]
    (opG Tryz.prog (Builtin.append_ #[23, 23] 23 #[.slice l2.a l2.n l2.c, .slice (some ⟨m, 0, none⟩) 1 1]) (.one .slice) (fun (l10 : Sl) => idxG l10.a l10.n ((l2.n : Nat) : Int) 5 fun (a11 : Addr) => bothG
     (stG (a11.add 0) (.int .i64 k1) (stG (a11.add 1) (.string o1) (stG (a11.add 2) (.string n1) (stG (a11.add 3) (.slice ns1.a ns1.n ns1.c) (stG (a11.add 4) (.slice ps1.a ps1.n ps1.c) (stG ⟨m3, 4, none⟩ (.slice l10.a l10.n l10.c) K))))))
     (stG ⟨m3, 4, none⟩ (.slice l10.a l10.n l10.c) (stG (a11.add 0) (.int .i64 k1) (stG (a11.add 1) (.string o1) (stG (a11.add 2) (.string n1) (stG (a11.add 3) (.slice ns1.a ns1.n ns1.c) (stG (a11.add 4) (.slice ps1.a ps1.n ps1.c) K))))))))))
   (newG (.cells zeroS 25 (0, 0)) fun m => keepG [(⟨m1, 0, none⟩, [.pointer p3]), (⟨m3, 4, none⟩, [.slice l2.a l2.n l2.c])] (callG Tryz.prog f #[.pointer p3] [.agg [.int .i64, .str, .str, .slice, .slice]] fun (k1 : Int) (o1 n1 : ByteArray) (ns1 ps1 : Sl) => keepG [(⟨m3, 4, none⟩, [.slice l2.a l2.n l2.c])]
    (opG Tryz.prog (Builtin.append_ #[23, 23] 23 #[.slice l2.a l2.n l2.c, .slice (some ⟨m, 0, none⟩) 1 1]) (.one .slice) (fun (l10 : Sl) => idxG l10.a l10.n ((l2.n : Nat) : Int) 5 fun (a11 : Addr) => bothG
     (stG (a11.add 0) (.int .i64 k1) (stG (a11.add 1) (.string o1) (stG (a11.add 2) (.string n1) (stG (a11.add 3) (.slice ns1.a ns1.n ns1.c) (stG (a11.add 4) (.slice ps1.a ps1.n ps1.c) (stG ⟨m3, 4, none⟩ (.slice l10.a l10.n l10.c) K))))))
     (stG ⟨m3, 4, none⟩ (.slice l10.a l10.n l10.c) (stG (a11.add 0) (.int .i64 k1) (stG (a11.add 1) (.string o1) (stG (a11.add 2) (.string n1) (stG (a11.add 3) (.slice ns1.a ns1.n ns1.c) (stG (a11.add 4) (.slice ps1.a ps1.n ps1.c) K))))))))))) R w := by
 obtain ⟨T, b1⟩ := I.b1
 obtain ⟨l1, l2, l3, l4, l5, l6⟩ := I.le
 have comb : ∀ {w1 w2 w3 : World}, Fr (oneB p) w w2 → Fr (fun b => b = m3 ∨ ∃ a, ps.a = some a ∧ a.block = b) w2 w3 → Fr (fun b => b = p ∨ b = m3 ∨ ∃ a, ps.a = some a ∧ a.block = b) w w3 := fun F G => (F.trans G).mono fun x _ h => h.elim (fun h => .inl h) fun h => .inr h.1
 refine I.b3.ldS (o := 4) rfl (b1.ld (c := .ptr) (x := some ⟨p, 0, none⟩) (o := 0) rfl (both_ok ?_ ?_))
 ·refine callPar_ok (hcall w (Fr.refl _ _)) fun k1 o1 n1 ns1 ps1 w1 C1 F1 hv => ?_
  have I1 := I.fr F1
  refine keep_cons I1.h3 (keep_nil (new_ok fun w2 m hm hs2 M2 F2 => ?_))
  have I2 := I1.fr0 F2
  refine keep_cons I2.h1 (keep_cons I2.h3 (keep_nil ?_))
  exact pushEnd_ok I2 hQ (C1.fr0 F2) M2 (by have := I1.le.2.2.2.2.2; omega) (fun w' F' => hv w' (F2.trans F' |>.mono fun x hx h => h.elim (fun h => h.elim) fun h => I.lt h.1)) fun ps' w' I' C' F' => hk ps' w' I' C' (comb (w1 := w1) (F1.then F2 fun _ _ h => h.elim) F')
 ·refine new_ok fun w1 m hm hs1 M1 F1 => ?_
  have I1 := I.fr0 F1
  refine keep_cons I1.h1 (keep_cons I1.h3 (keep_nil ?_))
  refine callPar_ok (hcall w1 F1) fun k1 o1 n1 ns1 ps1 w2 C2 F2 hv => ?_
  have I2 := I1.fr F2
  refine keep_cons I2.h3 (keep_nil ?_)
  exact pushEnd_ok I2 hQ C2 (M1.fr F2 (fun h => by change m = p at h; omega)) (by omega) (fun w' F' => hv w' (F'.mono fun x hx h => I1.lt h)) fun ps' w' I' C' F' => hk ps' w' I' C' (comb (w1 := w1) ((F1.mono fun _ _ h => h.elim).then F2 fun _ _ h => h) F')
def ReadC (p : Nat) (sl : Sl) (l : List Tok) (f : Nat) : Prop := ∀ (s : PS) (w : World), Cur w p sl l s → (s.err ≠ 0 → 1 ≤ f) → (s.err = 0 → l.length - s.at' < f) → Calls Tryz.prog 149 #[.pointer (some ⟨p, 0, none⟩)] w (ParP w p sl l (shapeF l f s).1 (shapeF l f s).2)
theorem typed_ok {f : Nat} (hR : ReadC p sl l f) (C : Cur w p sl l s) (hf1 : 1 ≤ f) (hf : l.length - s.at' < f) : Calls Tryz.prog 182 #[.pointer (some ⟨p, 0, none⟩)] w (ParP w p sl l (shapeF l f (must l [58] s)).1 (shapeF l f (must l [58] s)).2) := by
 apply c182
 unfold t182 tvZ shZ ld5mZ st5Z nz5Z ca0Z ca5Z
 refine new_ok fun w1 m1 hm1 hs1 B1 F1 => nn_ok (call_ok (pmust_ok (C.fr0 F1) (bs [58])) ?_)
 rintro e w2 ⟨rfl, C2, F2⟩
 rw [bl_bs] at C2
 have hpw : p < w.heap.size := C.b.lt
 have hmono := must_mono l [58] s
 refine ⟨(), rfl, callPar_ok (hR _ w2 C2 (fun _ => hf1) (fun _ => by omega)) fun k1 o1 n1 ns1 ps1 w3 C3 F3 hv => ?_⟩
 have F23 := st_fr F2 F3
 have hz := F2.size
 refine fill_ok (B1.fr F23 (fun h => by change m1 = p at h; omega)) rfl rfl rfl rfl rfl rfl fun w4 B4 F4 => ?_
 change Blk w4 m1 _ (shCells k1 o1 n1 ns1 ps1) at B4
 refine B4.ldV ⟨k1, o1, n1, ns1, ps1, rfl, C3.fr F4 (fun b hb h => by change b = m1 at h; omega), ?_, fun w'' F'' => hv w'' ((F4.trans F'').mono fun x hx h => ?_)⟩
 ·exact ((F1.mono fun _ _ h => h.elim).then F23 fun _ _ h => h).then F4 fun x hx h => by change x = m1 at h; omega
 ·rcases h with h | h
  ·change x = m1 at h
   omega
  ·have := h.1
   have := F1.size
   omega
theorem pushName_ok (I : Bld w mX m1 m3 p k ns ps names Q) (hn : names.length ≤ 100000) {x : B} (hx : x.length < 4611686018427387904) {m : Nat} (M : Blk w m 9 [.string (bs x)]) {K : G}
  (hk : ∀ ns' w', Bld w' mX m1 m3 p k ns' ps (names ++ [x]) Q → Fr (fun b => b = m3 ∨ ∃ a, ns.a = some a ∧ a.block = b) w w' → K R w') :
  opG Tryz.prog (Builtin.append_ #[22, 22] 22 #[.slice ns.a ns.n ns.c, .slice (some ⟨m, 0, none⟩) 1 1]) (.one .slice) (fun (l8 : Sl) => stG ⟨m3, 3, none⟩ (.slice l8.a l8.n l8.c) K) R w := by
 obtain ⟨iS, zS, hiS, hzS, q1, q2, q3⟩ := infoStr
 obtain ⟨l1, l2, l3, l4, l5, l6⟩ := I.le
 obtain ⟨V, oP, sP⟩ := I.row
 obtain ⟨T, b1⟩ := I.b1
 refine append_ok uStrs' hiS hzS q1 q2 q3 (by omega) (s := ns) I.ownN (m := 1) (news := [.string (bs x)]) rfl (M.held fun j v hj => by rw [Nat.zero_add]; exact hj) (fun u hu => by rw [List.mem_singleton.1 hu]; rfl) (by unfold maxLen; omega) (by omega) fun l8 w2 own2 F2 ha2 => ?_
 have hz2 := F2.size
 have h8 : ∀ a, l8.a = some a → mX < a.block ∧ a.block < w2.heap.size ∧ ∀ c, ps.a = some c → a.block ≠ c.block := fun a ha => by
  rcases ha2 a ha with h | h
  ·have := I.belN a h
   exact ⟨this.1, by omega, fun c hc => I.apart a c h hc⟩
  ·exact ⟨by omega, h.2, fun c hc => by have := (I.belP c hc).2; omega⟩
 have B3 : Blk w2 m3 _ (shCells k eB eB ns ps) := I.b3.fr F2 fun ⟨a, h1, h2⟩ => by have := (I.belN a h1).1; omega
 refine B3.st (o := 3) rfl (by simp [shCells]) fun w3 B4 F3 => ?_
 change Blk w3 m3 _ (shCells k eB eB l8 ps) at B4
 have hz3 := F3.size
 have F23 : Fr (fun b => b = m3 ∨ ∃ a, ns.a = some a ∧ a.block = b) w w3 := (F2.trans F3).mono fun x hx h => h.elim .inr fun h => .inl h.1
 have FS : Fr (fun b => b ≤ mX ∨ (∃ a, ns.a = some a ∧ a.block = b) ∨ (∃ a, ps.a = some a ∧ a.block = b)) w w3 := F23.mono fun x _ h => h.elim (fun h => .inl (by omega)) fun h => .inr (.inl h)
 refine hk l8 w3 ⟨⟨T, b1.fr F23 fun h => ?_⟩, B4, ⟨l1, l2, l3, l4, l5, by omega⟩, ⟨V, own_cells oP F23 fun a ha h => ?_, sP.go FS ?_⟩, ?_, fun a ha => ?_, fun a ha => ?_, fun a c ha hc => (h8 a ha).2.2 c hc, fun y hy => ?_⟩ F23
 ·rcases h with h | ⟨a, h1, h2⟩
  ·omega
  ·have := (I.belN a h1).1
   omega
 ·rcases h with h | ⟨c, h1, h2⟩
  ·have := (I.belP a ha).1
   omega
  ·exact I.apart c a h1 ha h2
 ·rintro y hy (h | ⟨a, h1, h2⟩ | h)
  ·exact .inl h
  ·rcases ha2 a h1 with h | h
   ·exact .inr (.inl ⟨a, h, h2⟩)
   ·omega
  ·exact .inr (.inr h)
 ·rw [List.length_append, List.map_append]
  exact own_cells own2 F3 fun a ha h => by
   have := (h8 a ha).1
   change a.block = m3 at h
   omega
 ·have := h8 a ha
  omega
 ·have := I.belP a ha
  omega
 ·rcases List.mem_append.1 hy with h | h
  ·exact I.nz y h
  ·rw [List.mem_singleton.1 h]
   exact hx
theorem part1_ok {f : Nat} (hR : ReadC p sl l f) (I : Bld w mX m1 m3 p k ns ps names Q) (C : Cur w p sl l s) (hQ : Q.length ≤ 100000) (hf1 : 1 ≤ f) (hf : l.length - s.at' < f) :
  Calls Tryz.prog 188 #[.pointer (some ⟨m3, 0, none⟩), .pointer (some ⟨m1, 0, none⟩)] w fun e w' => e = .returned (.tuple #[]) ∧ ∃ ps', Bld w' mX m1 m3 p k ns ps' names (Q ++ [(shapeF l f s).1]) ∧ Cur w' p sl l (shapeF l f s).2 ∧ Fr (fun b => b = p ∨ b = m3 ∨ mX < b) w w' := by
 apply c188
 unfold t188 ivZ tvZ svZ ldLZ ldPZ nz5Z ca5Z ixZ
 simp only [Addr.add_lit, Nat.zero_add]
 refine drew_ok fun w1 F1 z1 => ?_
 have l1 := I.le.1
 refine push_ok (q := (shapeF l f s).1) (s1 := (shapeF l f s).2) (I.fr0 F1) hQ (fun w2 F2 => hR s w2 ((C.fr0 F1).fr0 F2) (fun _ => hf1) (fun _ => hf)) fun ps' w2 I2 C2 F2 => ⟨rfl, ps', I2, C2, ?_⟩
 refine (F1.mono fun _ _ h => h.elim).then F2 fun x hx h => ?_
 rcases h with h | h | ⟨a, h1, h2⟩
 ·exact .inl h
 ·exact .inr (.inl h)
 ·have := (I.belP a h1).1
  exact .inr (.inr (by omega))
theorem rds_ownN (I : Bld w mX m1 m3 p k ns ps names Q) : RdS w ns (names.map bs) := by
 have h := I.ownN
 exact rds_own (l := ns) (N := names) h
end
end Go.Proofs.YticokfpaoiekgaaGreatDoor
end
section
namespace Go.Prs
open Go.Lex Go.Shp
theorem fresh_txt {l : List Tok} {ns : List B} {s : PS} (h : ∀ t ∈ l, t.text.length < 4611686018427387904) : (fresh l ns s).1.length < 4611686018427387904 := by
 have := take_txt (k := 1) (s := s) h
 unfold fresh
 dsimp only
 split <;> exact this
end Go.Prs
namespace Go.Proofs.YticokfpaoiekgaaGreatDoor
open Go.Lift Go.Lex Go.Shp Go.Prs
section
variable {R : Ending → World → Prop} {w : World} {mX m1 m3 p : Nat} {k : Int} {ns ps : Sl} {names : List B} {Q : List Shape} {sl : Sl} {l : List Tok} {s s1 : PS}
theorem named1_ok {f : Nat} (hR : ReadC p sl l f) (I : Bld w mX m1 m3 p k ns ps names Q) (C : Cur w p sl l s) (hN : names.length ≤ 100000) (hQ : Q.length ≤ 100000) (hf1 : 1 ≤ f) (hf : l.length - s.at' < f) :
  Calls Tryz.prog 180 #[.pointer (some ⟨m1, 0, none⟩), .pointer (some ⟨m3, 0, none⟩)] w fun e w' => e = .returned (.tuple #[]) ∧ ∃ ns' ps', Bld w' mX m1 m3 p k ns' ps' (namedF l f (names, Q) s).1.1 (namedF l f (names, Q) s).1.2 ∧ Cur w' p sl l (namedF l f (names, Q) s).2 ∧ Fr (fun b => b = p ∨ b = m3 ∨ mX < b) w w' := by
 apply c180
 unfold t180 ivZ tvZ svZ ldLZ ldPZ nwZ nz5Z caSZ ca5Z ixZ
 simp only [Addr.add_lit, Nat.zero_add]
 refine drew_ok fun w1 F1 z1 => ?_
 have I1 := I.fr0 F1
 have C1 := C.fr0 F1
 obtain ⟨T, b1⟩ := I1.b1
 obtain ⟨l1, l2, l3, l4, l5, l6⟩ := I1.le
 refine b1.ld (c := .ptr) (x := some ⟨p, 0, none⟩) (o := 0) rfl (nn_ok (I1.b3.ldS (o := 3) rfl ?_))
 refine callS_ok (Y := fun w' => Cur w' p sl l (fresh l names s).2 ∧ Fr (oneB p) w1 w') (pfresh_ok C1 (rds_ownN I1) (by omega) fun w' F => rds_ownN (I1.fr F)) fun w2 ⟨C2, F2⟩ => ?_
 have I2 := I1.fr F2
 refine keep_cons I2.h1 (keep_nil (I2.b3.ldS (o := 3) rfl (new_ok fun w3 m7 hm7 hs3 M3 F3 => ?_)))
 have I3 := I2.fr0 F3
 have C3 := C2.fr0 F3
 refine pushName_ok (x := (fresh l names s).1) I3 hN (fresh_txt C.txt) M3 fun ns' w4 I4 F4 => ?_
 have hb : ∀ b, b ≤ p → ¬ (b = m3 ∨ ∃ a, ns.a = some a ∧ a.block = b) := by
  rintro b hb (h | ⟨a, h1, h2⟩)
  ·omega
  ·have := (I.belN a h1).1
   omega
 have C4 := C3.fr F4 hb
 refine drew_ok fun w5 F5 z5 => ?_
 have hmn := fresh_mono l names s
 have hmm := must_mono l [58] (fresh l names s).2
 refine push_ok (q := (shapeF l f (must l [58] (fresh l names s).2)).1) (s1 := (shapeF l f (must l [58] (fresh l names s).2)).2) (I4.fr0 F5) hQ (fun w6 F6 => typed_ok hR ((C4.fr0 F5).fr0 F6) hf1 (by omega)) fun ps' w6 I6 C6 F6 => ⟨rfl, ns', ps', I6, C6, ?_⟩
 have g1 : Fr (fun b => b = p ∨ b = m3 ∨ mX < b) w w2 := ((F1.mono fun _ _ h => h.elim).then F2 fun _ _ h => h : Fr (oneB p) w w2).mono fun x _ h => .inl h
 have g2 : Fr (fun b => b = p ∨ b = m3 ∨ mX < b) w2 w4 := (F3.mono fun _ _ h => h.elim : Fr (fun b => b = p ∨ b = m3 ∨ mX < b) w2 w3).then F4 fun x _ h => by
  rcases h with h | ⟨a, h1, h2⟩
  ·exact .inr (.inl h)
  ·have := (I.belN a h1).1
   exact .inr (.inr (by omega))
 have g3 : Fr (fun b => b = p ∨ b = m3 ∨ mX < b) w4 w6 := (F5.mono fun _ _ h => h.elim : Fr (fun b => b = p ∨ b = m3 ∨ mX < b) w4 w5).then F6 fun x _ h => by
  rcases h with h | h | ⟨a, h1, h2⟩
  ·exact .inl h
  ·exact .inr (.inl h)
  ·have := (I.belP a h1).1
   exact .inr (.inr (by omega))
 exact (g1.then g2 fun _ _ h => h).then g3 fun _ _ h => h
theorem plist_ok {α : Type} {J : Nat → α → World → Prop} {one : α → PS → α × PS} {fcl : FuncId} {caps : Array Value} {a0 : α} (hres : (resOf Tryz.prog fcl).isSome = true) (hJ : ∀ n a w w', J n a w → Fr (oneB p) w w' → J n a w')
  (hmono : ∀ a s, s.at' ≤ (one a s).2.at') (hone : ∀ n a s1 w, J (n + 1) a w → Cur w p sl l s1 → s1.err = 0 → s.at' ≤ s1.at' → Calls Tryz.prog fcl caps w fun e w' => e = .returned (.tuple #[]) ∧ J n (one a s1).1 w' ∧ Cur w' p sl l (one a s1).2)
  (b t : ByteArray) (C : Cur w p sl l s) (h1 : 1 ≤ s.at') (h0 : J (l.length + 1) a0 w) : Calls Tryz.prog 187 #[.pointer (some ⟨p, 0, none⟩), .string b, .string t, .func (.func fcl) #[] caps] w fun e w' => e = .returned (.tuple #[]) ∧ (∃ n, J n (listL l (bl b) (bl t) one (l.length + 1) a0 s).1 w') ∧ Cur w' p sl l (listL l (bl b) (bl t) one (l.length + 1) a0 s).2 := by
 apply c187
 unfold t187 tvZ ca0Z caBZ jn0Z
 refine callB_ok (pmay_ok C t) fun w1 ⟨C1, F1⟩ => ?_
 unfold listL
 by_cases ht : isT l (bl t) s = true
 ·rw [if_pos ht]
  have e1 : may l (bl t) s = (true, on s) := by unfold may; rw [if_pos ht]
  rw [e1] at C1 ⊢
  exact ite_yes rfl ⟨rfl, ⟨_, hJ _ _ _ _ h0 F1⟩, C1⟩
 rw [if_neg ht]
 have e1 : may l (bl t) s = (false, s) := by unfold may; rw [if_neg ht]
 rw [e1] at C1 ⊢
 refine ite_no rfl ?_
 generalize hG : loopL l (bl b) (bl t) one (l.length + 1) a0 s = G0
 refine join0_ok (fun w' => (∃ n, J n G0.1 w') ∧ Cur w' p sl l G0.2) (fun kj hkj => ?_) fun w' ⟨hj, hc⟩ => ⟨rfl, hj, hc⟩
 refine loop0_ok (fun n w' => ∃ a s1, J n a w' ∧ Cur w' p sl l s1 ∧ s.at' ≤ s1.at' ∧ loopL l (bl b) (bl t) one n a s1 = G0 ∧ 1 ≤ n ∧ (s1.err = 0 → l.length - s1.at' + 2 ≤ n)) ?_ (n := l.length + 1) ⟨a0, s, hJ _ _ _ _ h0 F1, C1, Nat.le_refl _, hG, by omega, fun _ => by have := C.le; omega⟩
 rintro n rec w2 ⟨a, s1, hj, C2, hle, hg, hn1, hn2⟩ hrec
 obtain ⟨n, rfl⟩ : ∃ m, n = m + 1 := ⟨n - 1, by omega⟩
 refine callB_ok (pbad_ok C2) fun w3 F3 => ?_
 have C3 := C2.fr0 F3
 have J3 := hJ _ _ _ _ hj (F3.mono fun _ _ h => h.elim)
 by_cases he : s1.err = 0
 rotate_left
 ·have hbne : (s1.err != 0) = true := by simpa using he
  refine ite_no (by rw [hbne]; rfl) (hkj _ ?_)
  unfold loopL at hg
  rw [if_pos he] at hg
  subst hg
  exact ⟨⟨_, J3⟩, C3⟩
 have hbne : (s1.err != 0) = false := by simpa using he
 have hn3 := hn2 he
 unfold loopL at hg
 rw [if_neg (by omega)] at hg
 dsimp only at hg
 refine ite_yes (by rw [hbne]; rfl) (join_in (vs := []) ⟨fcl, #[], caps, rfl, hres, ?_⟩)
 rw [Array.empty_append, Array.empty_append]
 refine (hone n a s1 w3 J3 C3 he hle).mono ?_
 rintro e w4 ⟨rfl, J4, C4⟩
 refine .inl ⟨(), rfl, ?_⟩
 have hm1 := hmono a s1
 refine callB_ok (pmay_ok C4 t) fun w5 ⟨C5, F5⟩ => ?_
 by_cases ht2 : isT l (bl t) (one a s1).2 = true
 ·have e2 : may l (bl t) (one a s1).2 = (true, on (one a s1).2) := by unfold may; rw [if_pos ht2]
  rw [if_pos ht2] at hg
  rw [e2] at C5 ⊢
  subst hg
  exact ite_yes rfl ⟨rfl, ⟨_, hJ _ _ _ _ J4 F5⟩, C5⟩
 have e2 : may l (bl t) (one a s1).2 = (false, (one a s1).2) := by unfold may; rw [if_neg ht2]
 rw [if_neg ht2] at hg
 rw [e2] at C5 ⊢
 refine ite_no rfl (call_ok (pmust_ok C5 b) ?_)
 rintro e w6 ⟨rfl, C6, F6⟩
 have hm2 := must_mono l (bl b) (one a s1).2
 refine ⟨(), rfl, hrec n w6 (by omega) ⟨_, _, hJ _ _ _ _ J4 (st_fr F5 F6), C6, Nat.le_trans hle (Nat.le_trans hm1 hm2), hg, by omega, fun he2 => ?_⟩⟩
 by_cases hb2 : isT l (bl b) (one a s1).2 = true
 ·have hlt := isT_lt hb2
  have e3 : (must l (bl b) (one a s1).2).at' = (one a s1).2.at' + 1 := by unfold must; rw [if_pos hb2]; rfl
  rw [e3]
  omega
 ·exfalso
  have e3 : must l (bl b) (one a s1).2 = fail 90 (peek l (one a s1).2.at').at' (one a s1).2 := by unfold must; rw [if_neg hb2]
  rw [e3] at he2
  unfold fail at he2
  split at he2
  ·cases he2
  ·rename_i hx
   exact hx he2
end
end Go.Proofs.YticokfpaoiekgaaGreatDoor
end
