/- The law behind: one part of its proof (joined by program out of my own texts). No condition. -/
import Derived.Test.YticokfpaoiekgaaGreatDoorFdrBD
section
namespace Go.Shp
open Go.Lex Go.Lib
structure Hit where
 of : B
 name : B
 rank : Int
 deriving DecidableEq
def behind (a b : Hit) : Bool := if a.rank ≠ b.rank then decide (a.rank < b.rank) else if a.of ≠ b.of then ltB b.of a.of else ltB b.name a.name
theorem behind_irr (a : Hit) : behind a a = false := by
 unfold behind
 rw [if_neg (by simp), if_neg (by simp)]
 exact ltB_irr _
theorem ltB_asym {a b : B} (h : ltB a b = true) : ltB b a = false := by
 rw [Bool.eq_false_iff]
 intro h2
 have := ltB_trans h h2
 rw [ltB_irr] at this
 cases this
theorem behind_asym {a b : Hit} (h : behind a b = true) : behind b a = false := by
 unfold behind at h ⊢
 by_cases h1 : a.rank = b.rank
 ·rw [if_neg (by simp [h1])] at h
  rw [if_neg (by simp [h1])]
  by_cases h2 : a.of = b.of
  ·rw [if_neg (by simp [h2])] at h
   rw [if_neg (by simp [h2])]
   exact ltB_asym h
  ·rw [if_pos h2] at h
   rw [if_pos (Ne.symm h2)]
   exact ltB_asym h
 ·rw [if_pos h1] at h
  rw [if_pos (Ne.symm h1)]
  have := of_decide_eq_true h
  exact decide_eq_false (by omega)
theorem behind_trans {a b c : Hit} (h1 : behind a b = true) (h2 : behind b c = true) : behind a c = true := by
 unfold behind at h1 h2 ⊢
 by_cases e1 : a.rank = b.rank
 ·rw [if_neg (by simp [e1])] at h1
  by_cases e2 : b.rank = c.rank
  ·rw [if_neg (by simp [e2])] at h2
   rw [if_neg (by simp [e1, e2])]
   by_cases o1 : a.of = b.of
   ·rw [if_neg (by simp [o1])] at h1
    by_cases o2 : b.of = c.of
    ·rw [if_neg (by simp [o2])] at h2
     rw [if_neg (by simp [o1, o2])]
     exact ltB_trans h2 h1
    ·rw [if_pos o2] at h2
     rw [if_pos (by rw [o1]; exact o2), o1]
     exact h2
   ·rw [if_pos o1] at h1
    by_cases o2 : b.of = c.of
    ·rw [if_pos (by rw [← o2]; exact o1), ← o2]
     exact h1
    ·rw [if_pos o2] at h2
     have h3 := ltB_trans h2 h1
     rw [if_pos (fun e => by rw [e, ltB_irr] at h3; cases h3)]
     exact h3
  ·rw [if_pos e2] at h2
   rw [if_pos (by rw [e1]; exact e2), e1]
   exact h2
 ·rw [if_pos e1] at h1
  have l1 := of_decide_eq_true h1
  by_cases e2 : b.rank = c.rank
  ·rw [if_pos (by omega)]
   exact decide_eq_true (by omega)
  ·rw [if_pos e2] at h2
   have l2 := of_decide_eq_true h2
   rw [if_pos (by omega)]
   exact decide_eq_true (by omega)
theorem behind_tri {a b : Hit} (h1 : behind a b = false) (h2 : behind b a = false) : a = b := by
 unfold behind at h1 h2
 by_cases e1 : a.rank = b.rank
 ·rw [if_neg (by simp [e1])] at h1 h2
  by_cases o1 : a.of = b.of
  ·rw [if_neg (by simp [o1])] at h1 h2
   have : a.name = b.name := by
    by_cases hn : a.name = b.name
    ·exact hn
    ·rw [ltB_tri hn h2] at h1
     cases h1
   cases a; cases b
   simp only at e1 o1 this
   subst e1 o1 this
   rfl
  ·rw [if_pos o1] at h1
   rw [if_pos (Ne.symm o1)] at h2
   rw [ltB_tri o1 h2] at h1
   cases h1
 ·rw [if_pos e1] at h1
  rw [if_pos (Ne.symm e1)] at h2
  have l1 := of_decide_eq_false h1
  have l2 := of_decide_eq_false h2
  omega
def Down (l : List Hit) : Prop := l.Pairwise fun x y => behind x y = false
def insH (h : Hit) : List Hit → List Hit
 | [] => [h]
 | x :: r => if behind x h then h :: x :: r else x :: insH h r
def sortH (l : List Hit) : List Hit := l.foldl (fun a h => insH h a) []
theorem insH_perm (h : Hit) : ∀ l : List Hit, (insH h l).Perm (h :: l)
 | [] => List.Perm.refl _
 | x :: r => by
  unfold insH
  split
  ·exact List.Perm.refl _
  ·exact ((insH_perm h r).cons _).trans (List.Perm.swap _ _ _)
theorem insH_down {h : Hit} : ∀ {l : List Hit}, Down l → Down (insH h l)
 | [], _ => List.pairwise_singleton _ _
 | x :: r, hd => by
  unfold Down at hd ⊢
  rw [List.pairwise_cons] at hd
  unfold insH
  by_cases hb : behind x h = true
  ·rw [if_pos hb, List.pairwise_cons, List.pairwise_cons]
   refine ⟨fun y hy => ?_, hd.1, hd.2⟩
   rcases List.mem_cons.1 hy with rfl | hy
   ·exact behind_asym hb
   ·rw [Bool.eq_false_iff]
    intro h2
    have h3 := behind_trans hb h2
    rw [hd.1 y hy] at h3
    cases h3
  ·rw [if_neg hb, List.pairwise_cons]
   refine ⟨fun y hy => ?_, insH_down hd.2⟩
   rcases List.mem_cons.1 ((insH_perm h r).mem_iff.1 hy) with rfl | hy
   ·simpa using hb
   ·exact hd.1 y hy
theorem sortH_go : ∀ (l a : List Hit), Down a → Down (l.foldl (fun a h => insH h a) a) ∧ (l.foldl (fun a h => insH h a) a).Perm (a ++ l)
 | [], a, h => ⟨h, by simp⟩
 | x :: l, a, h => by
  obtain ⟨h1, h2⟩ := sortH_go l (insH x a) (insH_down h)
  refine ⟨h1, h2.trans ?_⟩
  exact ((insH_perm x a).append_right l).trans (List.perm_middle.symm)
theorem sortH_down (l : List Hit) : Down (sortH l) := (sortH_go l [] List.Pairwise.nil).1
theorem sortH_perm (l : List Hit) : (sortH l).Perm l := by
 have := (sortH_go l [] List.Pairwise.nil).2
 rw [List.nil_append] at this
 exact this
theorem down_unique : ∀ {l m : List Hit}, Down l → Down m → l.Perm m → l = m
 | [], m, _, _, h => (List.nil_perm.1 h).symm
 | x :: l, [], _, _, h => by have := h.length_eq; simp at this
 | x :: l, y :: m, hl, hm, h => by
  unfold Down at hl hm
  rw [List.pairwise_cons] at hl hm
  have hxy : x = y := by
   have hx : x ∈ y :: m := h.mem_iff.1 List.mem_cons_self
   have hy : y ∈ x :: l := h.mem_iff.2 List.mem_cons_self
   rcases List.mem_cons.1 hx with e | hx
   ·exact e
   rcases List.mem_cons.1 hy with e | hy
   ·exact e.symm
   exact behind_tri (hl.1 y hy) (hm.1 x hx)
  subst hxy
  rw [down_unique hl.2 hm.2 (List.Perm.cons_inv h)]
theorem down_sortH {l m : List Hit} (hm : Down m) (h : m.Perm l) : m = sortH l := down_unique hm (sortH_down l) (h.trans (sortH_perm l).symm)
theorem ins_end {h : Hit} {l : List Hit} (hd : Down l) : ∀ (n : Nat), n ≤ l.length → (∀ y ∈ l.drop n, behind y h = true) → (∀ x, l[n - 1]? = some x → 0 < n → behind x h = false) → l.take n ++ h :: l.drop n = insH h l := by
 intro n hn h1 h2
 refine down_unique ?_ (insH_down hd) ?_
 ·unfold Down
  rw [List.pairwise_append]
  have hdd : (l.take n ++ l.drop n).Pairwise fun x y => behind x y = false := by rw [List.take_append_drop]; exact hd
  rw [List.pairwise_append] at hdd
  refine ⟨hdd.1, List.pairwise_cons.2 ⟨fun y hy => behind_asym (h1 y hy), hdd.2.1⟩, fun x hx y hy => ?_⟩
  rcases List.mem_cons.1 hy with rfl | hy
  ·by_cases hn0 : n = 0
   ·subst hn0; simp at hx
   have hlast : l[n - 1]? = some _ := List.getElem?_eq_getElem (show n - 1 < l.length by omega)
   have hb := h2 _ hlast (by omega)
   obtain ⟨i, hi⟩ := List.mem_iff_getElem?.1 hx
   have hin : i < n := by
    have := (List.getElem?_eq_some_iff.1 hi).1
    rw [List.length_take] at this
    omega
   rw [List.getElem?_take_of_lt hin] at hi
   by_cases hil : i = n - 1
   ·subst hil
    rw [hlast] at hi
    cases hi
    exact hb
   ·have hpair := List.pairwise_iff_getElem.1 hd i (n - 1) (by omega) (by omega) (by omega)
    have ei := (List.getElem?_eq_some_iff.1 hi).2
    rw [ei] at hpair
    rw [Bool.eq_false_iff]
    intro hxb
    -- x comes behind h, h not behind.. then the last one would come behind too
    by_cases hyl : behind y l[n - 1] = true
    ·have := behind_trans hxb hyl
     rw [hpair] at this
     cases this
    ·have e : l[n - 1] = y := behind_tri hb (by simpa using hyl)
     rw [e, hxb] at hpair
     cases hpair
  ·exact hdd.2.2 x hx y hy
 ·refine (List.perm_middle).trans ?_
  rw [List.take_append_drop]
  exact (insH_perm h l).symm
end Go.Shp
end
section
namespace Go.Shp
open Go.Lex
theorem gt_ltB (a b : B) : (!(ltB a b || a == b)) = ltB b a := by
 by_cases h : a = b
 ·subst h
  rw [ltB_irr, beq_self_eq_true]
  rfl
 ·rw [beq_eq_false_iff_ne.2 h, Bool.or_false]
  cases h1 : ltB a b with
  | true => rw [ltB_asym h1]; rfl
  | false => rw [ltB_tri h h1]; rfl
end Go.Shp
namespace Go.Proofs.YticokfpaoiekgaaGreatDoor
open Go.Lift Go.Lex Go.Shp
def hitCells (o n : ByteArray) (r : Int) : List Value := [.string o, .string n, .int .i64 r]
theorem rbehind_ok (o n : ByteArray) (r : Int) (o2 n2 : ByteArray) (r2 : Int) {w : World} : AnsB 57 #[.agg #[.string o, .string n, .int .i64 r], .agg #[.string o2, .string n2, .int .i64 r2]] w (behind ⟨bl o, bl n, r⟩ ⟨bl o2, bl n2, r2⟩) := by
 apply c57
 unfold t57 ivZ tvZ ldIZ ldSZ nwZ
 refine new_ok fun w1 m6 hm6 hs1 B1 F1 => new_ok fun w2 m7 hm7 hs2 C2 F2 => ?_
 have B2 := B1.fr F2 (fun h => h)
 change Blk w2 m6 _ (hitCells o n r) at B2
 change Blk w2 m7 _ (hitCells o2 n2 r2) at C2
 have F12 := F1.tr F2
 unfold behind
 refine B2.ld (c := .int .i64) (x := r) (o := 2) rfl (C2.ld (c := .int .i64) (x := r2) (o := 2) rfl (ite_ok (fun h => ?_) fun h => ?_))
 ·have h : r ≠ r2 := by simpa using h
  refine B2.ld (c := .int .i64) (x := r) (o := 2) rfl (C2.ld (c := .int .i64) (x := r2) (o := 2) rfl ⟨?_, F12⟩)
  rw [if_pos h]
 have h : r = r2 := by simpa using h
 rw [if_neg (by simpa using h)]
 refine B2.ld (c := .str) (x := o) (o := 0) rfl (C2.ld (c := .str) (x := o2) (o := 0) rfl ?_)
 rw [eq_bl]
 refine ite_ok (fun h1 => ?_) fun h1 => ?_
 ·have h1 : bl o ≠ bl o2 := by simpa using h1
  refine B2.ld (c := .str) (x := o) (o := 0) rfl (C2.ld (c := .str) (x := o2) (o := 0) rfl ⟨?_, F12⟩)
  rw [if_pos h1, eq_bl, toList_bl, toList_bl, less_ltB, gt_ltB]
 have h1 : bl o = bl o2 := by simpa using h1
 rw [if_neg (by simpa using h1)]
 refine B2.ld (c := .str) (x := n) (o := 1) rfl (C2.ld (c := .str) (x := n2) (o := 1) rfl ⟨?_, F12⟩)
 rw [eq_bl, toList_bl, toList_bl, less_ltB, gt_ltB]
end Go.Proofs.YticokfpaoiekgaaGreatDoor
end
section
namespace Go.Proofs.YticokfpaoiekgaaGreatDoor
open Go.Lift Go.Lex Go.Shp
abbrev HV3 := ByteArray × ByteArray × Int
def hvCells (v : HV3) : List Value := hitCells v.1 v.2.1 v.2.2
def hvHit (v : HV3) : Hit := ⟨bl v.1, bl v.2.1, v.2.2⟩
theorem hv_one {V : List HV3} : ∀ u ∈ V.flatMap hvCells, u.oneCell' = true := by
 intro u hu
 obtain ⟨v, _, hv⟩ := List.mem_flatMap.1 hu
 simp only [hvCells, hitCells, List.mem_cons, List.not_mem_nil, or_false] at hv
 rcases hv with rfl | rfl | rfl <;> rfl
theorem infoHit : infoSays Tryz.prog 46 3 40 3 := infoSays_of (by kernel_rfl)
theorem uHits : Tryz.prog.underlying 32 = some (.slice 46) := by kernel_rfl
theorem hit_ld {R : Ending → World → Prop} {w : World} {e : TypeId} {l : Sl} {V : List HV3} {i : Nat} {v : HV3} {K : ByteArray → ByteArray → Int → G} (h : w.ownsRow 0 e 3 (.slice l.a l.n l.c) V.length (V.flatMap hvCells)) (hv : V[i]? = some v) (hk : K v.1 v.2.1 v.2.2 R w) :
  idxG l.a l.n (i : Int) 3 (fun (a : Addr) => ldG .str (a.add 0) (fun (s : ByteArray) => ldG .str (a.add 1) (fun (n : ByteArray) => ldG (.int .i64) (a.add 2) (fun (r : Int) => K s n r)))) R w := by
 have hi := (List.getElem?_eq_some_iff.1 hv).1
 rcases h.2 with ⟨h1, h2⟩ | ⟨g, cap, cur, h1, _, hg, _⟩
 ·omega
 ·simp only [Value.slice.injEq] at h1
  have hc := h.cells (g := g) (by rw [h1.1]; rfl)
  have at' : ∀ c u, c < 3 → (hvCells v)[c]? = some u → w.cell? ⟨g, 0 + i * 3 + c, none⟩ = some u := fun c u hc5 hu => by
   have := hc (i * 3 + c) u (by rw [flat_at hvCells 3 (fun _ _ => rfl) hv c hc5]; exact hu)
   rw [Addr.add_lit] at this
   rw [Nat.add_assoc]
   exact this
  rw [h1.1, h1.2.1]
  refine idxB_ok (n := V.length) (i := i) hi ?_
  simp only [Addr.add_lit, Nat.add_zero]
  exact ld_ok (c := .str) (at' 0 _ (by omega) rfl) (ld_ok (c := .str) (at' 1 _ (by omega) rfl) (ld_ok (c := .int .i64) (at' 2 _ (by omega) rfl) hk))
theorem radd_ok {w : World} {l0 : Sl} {V : List HV3} {o n : ByteArray} {r : Int} (hown : w.ownsRow 0 46 3 (.slice l0.a l0.n l0.c) V.length (V.flatMap hvCells)) (hl : V.length ≤ 1000000) (hd : Down (V.map hvHit)) :
  Calls Tryz.prog 30 #[.slice l0.a l0.n l0.c, .agg #[.string o, .string n, .int .i64 r]] w fun e w' => ∃ (l : Sl) (V' : List HV3), e = .returned (.slice l.a l.n l.c) ∧ w'.ownsRow 0 46 3 (.slice l.a l.n l.c) V'.length (V'.flatMap hvCells) ∧
   (V'.map hvHit = if r < 1 then V.map hvHit else insH ⟨bl o, bl n, r⟩ (V.map hvHit)) ∧ Fr noB w w' := by
 obtain ⟨iH, zH, hiH, hzH, s1, s2, s3⟩ := infoHit
 have hln : l0.n = V.length := (src_own hown (Nat.zero_le _)).1
 apply c30
 unfold t30 wrZ ivZ tvZ svZ ldIZ ldSZ ld3xZ nwZ caBZ jnBZ jnIZ lpIZ ixZ
 refine new_ok fun w1 m4 hm4 hs1 B1 F1 => ?_
 change Blk w1 m4 _ (hitCells o n r) at B1
 have own1 := own_fr0 hown F1
 refine B1.ld (c := .int .i64) (x := r) (o := 2) rfl (ite_ok (fun h => ⟨l0, V, rfl, own1, by rw [if_pos (of_decide_eq_true h)], F1⟩) fun h => ?_)
 have hr : ¬ r < 1 := of_decide_eq_false h
 refine join1_ok (c := .int .i64) (fun (y : Int) w' => ∃ a : Nat, y = (a : Int) ∧ a ≤ V.length ∧ (∀ (j : Nat) v, a ≤ j → V[j]? = some v → behind (hvHit v) ⟨bl o, bl n, r⟩ = true) ∧ (∀ v, V[a - 1]? = some v → 0 < a → behind (hvHit v) ⟨bl o, bl n, r⟩ = false) ∧ Fr noB w1 w') (fun kj hkj => ?_) ?_
 ·refine loop1_ok (c := .int .i64) (fun (y : Int) w' => ∃ a : Nat, y = (a : Int) ∧ a ≤ V.length ∧ (∀ (j : Nat) v, a ≤ j → V[j]? = some v → behind (hvHit v) ⟨bl o, bl n, r⟩ = true) ∧ Fr noB w1 w') (fun (y : Int) => y.toNat) ?_ ⟨V.length, by rw [hln], Nat.le_refl _, fun j v hj hv => by have := (List.getElem?_eq_some_iff.1 hv).1; omega, Fr.refl _ _⟩
  rintro rec y w2 ⟨a, rfl, ha, hall, F2⟩ hrec
  refine join1_ok (c := .bool) (fun (b : Bool) w3 => b = (decide (0 < a) && (V[a - 1]?).any (fun v => behind (hvHit v) ⟨bl o, bl n, r⟩)) ∧ Fr noB w1 w3) (fun kj2 hkj2 => drew_ok fun w3 F3 z3 => ?_) ?_
  ·have G3 := F2.tr F3
   refine ite_ok (fun hp => ?_) fun hp => hkj2 _ _ ⟨?_, G3⟩
   ·have hp : (a : Int) > 0 := of_decide_eq_true hp
    have ew : IntKind.wrap .i64 ((a : Int) - 1) = ((a - 1 : Nat) : Int) := by rw [wrap_ok (by omega) (by omega)]; omega
    rw [ew]
    obtain ⟨v, hv⟩ : ∃ v, V[a - 1]? = some v := ⟨_, List.getElem?_eq_getElem (by omega)⟩
    refine hit_ld (own_fr0 own1 G3) hv ?_
    have B3 := B1.fr G3 (fun h => h)
    refine B3.ld (c := .str) (x := o) (o := 0) rfl (B3.ld (c := .str) (x := n) (o := 1) rfl (B3.ld (c := .int .i64) (x := r) (o := 2) rfl (callB_ok (rbehind_ok v.1 v.2.1 v.2.2 o n r) fun w4 F4 => hkj2 _ _ ⟨?_, G3.tr F4⟩)))
    rw [hv, decide_eq_true (by omega)]
    rfl
   ·have hp : ¬ (a : Int) > 0 := of_decide_eq_false hp
    rw [decide_eq_false (by omega), Bool.false_and]
  ·rintro b w3 ⟨rfl, G3⟩
   refine ite_ok (fun hb => ?_) fun hb => hkj _ _ ⟨a, rfl, ha, hall, fun v hv hpos => ?_, G3⟩
   ·rw [Bool.and_eq_true] at hb
    have hpos : 0 < a := of_decide_eq_true hb.1
    have ew : IntKind.wrap .i64 ((a : Int) - 1) = ((a - 1 : Nat) : Int) := by rw [wrap_ok (by omega) (by omega)]; omega
    refine join_in (vs := [.one (.int .i64)]) ?_
    rw [ew]
    refine hrec _ _ ⟨a - 1, rfl, by omega, fun j v hj hv => ?_, G3⟩ (by simp only [Int.toNat_natCast]; omega)
    rcases Nat.lt_or_ge j a with h1 | h1
    ·have hj2 : j = a - 1 := by omega
     subst hj2
     have := hb.2
     rw [hv] at this
     exact this
    ·exact hall j v h1 hv
   ·rw [hv, decide_eq_true hpos, Bool.true_and] at hb
    exact hb
 rintro y w2 ⟨a, rfl, ha, hhi, hlo, F2⟩
 refine drew_ok fun w3 F3 z3 => ?_
 have G3 := F2.tr F3
 have B3 := B1.fr G3 (fun h => h)
 have own3 := own_fr0 own1 G3
 obtain ⟨hn1, hc1, sA, sB⟩ := src_own own3 ha
 refine assume_ok (decide_eq_true (Int.le_refl _)) (reslice_lo (l := l0) (by omega) ?_)
 refine B3.ld (c := .str) (x := o) (o := 0) rfl (B3.ld (c := .str) (x := n) (o := 1) rfl (B3.ld (c := .int .i64) (x := r) (o := 2) rfl (assume_ok (decide_eq_true (Int.le_refl _)) (reslice_hi (l := l0) hn1 ha hc1 ?_))))
 have f1 : ∀ w', Fr noB w3 w' → Held w' (⟨m4, 0, none⟩, [.string o, .string n, .int .i64 r]) := fun w' F => (B3.fr F (fun h => h)).held fun j v hj => by rw [Nat.zero_add]; exact hj
 refine ins_ok2 uHits hiH hzH s1 s2 s3 (by omega) (x := #[.string o, .string n, .int .i64 r]) rfl (fun u hu => hv_one (V := [(o, n, r)]) u (by simpa [hvCells, hitCells] using hu)) sA sB (fun u hu => hv_one u (List.mem_of_mem_take hu)) (fun u hu => hv_one u (List.mem_of_mem_drop hu)) (by unfold maxLen; omega) (by omega)
  (by repeat (first | exact Stay.nil | refine Stay.cons (by assumption) ?_)) (by repeat (first | exact Stay.nil | refine Stay.cons (by assumption) ?_)) (by repeat (first | exact Stay.nil | refine Stay.cons (by assumption) ?_)) (by repeat (first | exact Stay.nil | refine Stay.cons (by assumption) ?_)) (by repeat (first | exact Stay.nil | refine Stay.cons (by assumption) ?_)) (by repeat (first | exact Stay.nil | refine Stay.cons (by assumption) ?_)) (by repeat (first | exact Stay.nil | refine Stay.cons (by assumption) ?_)) (by repeat (first | exact Stay.nil | refine Stay.cons (by assumption) ?_)) fun l' w4 own4 bel4 F4 => ⟨l', V.take a ++ (o, n, r) :: V.drop a, rfl, ?_, ?_, (F1.tr G3).tr F4⟩
 ·rw [show (V.take a ++ (o, n, r) :: V.drop a).length = a + 1 + (V.length - a) by simp only [List.length_append, List.length_cons, List.length_take, List.length_drop]; omega]
  rw [List.flatMap_append, List.flatMap_cons, flat_take hvCells 3 (fun _ => rfl), flat_drop hvCells 3 (fun _ => rfl)]
  simpa [List.append_assoc, hvCells, hitCells] using own4
 ·rw [if_neg hr, List.map_append, List.map_cons, List.map_take, List.map_drop]
  refine ins_end hd a (by rw [List.length_map]; exact ha) (fun y hy => ?_) fun x hx hpos => ?_
  ·obtain ⟨j, hj⟩ := List.mem_iff_getElem?.1 hy
   rw [List.getElem?_drop, List.getElem?_map] at hj
   cases hv : V[a + j]? with
   | none => rw [hv] at hj; cases hj
   | some v =>
    rw [hv] at hj
    cases hj
    exact hhi (a + j) v (by omega) hv
  ·rw [List.getElem?_map] at hx
   cases hv : V[a - 1]? with
   | none => rw [hv] at hx; cases hx
   | some v =>
    rw [hv] at hx
    cases hx
    exact hlo v hv hpos
end Go.Proofs.YticokfpaoiekgaaGreatDoor
end
section
namespace Go.Shp
open Go.Lex
def hasAt (s x : B) (i : Nat) : Bool := decide (i + x.length ≤ s.length) && (s.drop i).take x.length == x
def namedR (s x : B) : Nat := if s == x then 3 else if hasAt s x 0 then 2 else if (List.range (s.length + 1)).any (hasAt s x) then 1 else 0
end Go.Shp
namespace Go.Proofs.YticokfpaoiekgaaGreatDoor
open Go.Lift Go.Lex Go.Shp
theorem rnamed_ok (s x : ByteArray) (hs : s.size < 4611686018427387904) (hx : x.size < 4611686018427387904) {w : World} : Calls Tryz.prog 35 #[.string s, .string x] w fun e w' => e = .returned (.int .i64 ((namedR (bl s) (bl x) : Nat) : Int)) ∧ Fr noB w w' := by
 apply c35
 unfold t35 wrZ ivZ jn0Z lpIZ
 have hsl := bl_length s
 have hxl := bl_length x
 unfold namedR
 rw [eq_bl]
 refine ite_ok (fun h => ⟨by rw [h]; rfl, Fr.refl _ _⟩) fun h => ?_
 rw [h]
 simp only [Bool.false_eq_true, if_false]
 refine join0_ok (fun w' => (∀ j, hasAt (bl s) (bl x) j = false) ∧ w' = w) (fun kend hkend => ?_) ?_
 ·refine countL_ok (s.size + 1) (by omega) (fun i w' => (∀ j, j < i → hasAt (bl s) (bl x) j = false) ∧ w' = w) (fun rec i w1 hi hI hrec => ?_) ⟨fun j h => by omega, rfl⟩
  obtain ⟨hdone, rfl⟩ := hI
  have ew : IntKind.wrap .i64 ((i : Int) + ((x.size : Nat) : Int)) = ((i + x.size : Nat) : Int) := by rw [wrap_ok (by omega) (by omega)]; omega
  rw [ew]
  refine ite_ok (fun hlt => ?_) fun hge => hkend _ ⟨fun j => ?_, rfl⟩
  ·have hlt : ((i + x.size : Nat) : Int) ≤ ((s.size : Nat) : Int) := of_decide_eq_true hlt
   refine join_in (vs := []) (sub_ok (l := (i : Int)) (h' := ((i + x.size : Nat) : Int)) (by omega) (by omega) (by omega) ?_)
   have hb : hasAt (bl s) (bl x) i = (bl (s.extract (i : Int).toNat ((i + x.size : Nat) : Int).toNat) == bl x) := by
    unfold hasAt
    rw [decide_eq_true (by omega), Bool.true_and, Int.toNat_natCast, Int.toNat_natCast]
    congr 1
    rw [bl_extract, show i + x.size - i = x.size by omega, hxl]
   rw [eq_bl, ← hb]
   refine ite_ok (fun hm => ite_ok (fun h0 => ⟨?_, Fr.refl _ _⟩) fun h0 => ⟨?_, Fr.refl _ _⟩) fun hm => hrec (by omega) _ ⟨fun j hj => ?_, rfl⟩
   ·have h0 : i = 0 := nat0 h0
    subst h0
    rw [hm]
    rfl
   ·have h0 : i ≠ 0 := by
     rintro rfl
     cases h0
    rw [hdone 0 (by omega)]
    have : (List.range ((bl s).length + 1)).any (hasAt (bl s) (bl x)) = true := List.any_eq_true.2 ⟨i, List.mem_range.2 (by omega), hm⟩
    rw [this]
    rfl
   ·rcases Nat.lt_succ_iff_lt_or_eq.1 hj with hj | rfl
    ·exact hdone j hj
    ·exact hm
  ·have hge : ¬ ((i + x.size : Nat) : Int) ≤ ((s.size : Nat) : Int) := of_decide_eq_false hge
   by_cases hj : j < i
   ·exact hdone j hj
   ·unfold hasAt
    rw [decide_eq_false (by omega), Bool.false_and]
 ·rintro w' ⟨hno, rfl⟩
  refine ⟨?_, Fr.refl _ _⟩
  rw [hno 0]
  have : (List.range ((bl s).length + 1)).any (hasAt (bl s) (bl x)) = false := by
   rw [List.any_eq_false]
   intro j _
   rw [hno j]
   exact Bool.false_ne_true
  rw [this]
  rfl
theorem rfirst_ok {w : World} {l0 : Sl} {V : List HV3} (n : Int) (hown : w.ownsRow 0 46 3 (.slice l0.a l0.n l0.c) V.length (V.flatMap hvCells)) :
  Calls Tryz.prog 31 #[.slice l0.a l0.n l0.c, .int .i64 n] w fun e w' => w' = w ∧ ∃ l : Sl, e = .returned (.slice l.a l.n l.c) ∧ (l.n = (V.take n.toNat).length ∧ l.n ≤ l.c) ∧ SrcC w l 3 ((V.take n.toNat).flatMap hvCells) := by
 obtain ⟨hn1, hc1, _, _⟩ := src_own hown (Nat.zero_le _)
 apply c31
 unfold t31 svZ
 refine ite_ok (fun h => ?_) fun h => ?_
 ·have h : n < 1 := of_decide_eq_true h
  have e0 : n.toNat = 0 := by omega
  rw [e0]
  exact ⟨rfl, ⟨none, 0, 0⟩, rfl, ⟨rfl, Nat.le_refl _⟩, rfl, fun _ => ⟨rfl, rfl⟩, fun ad ha => by cases ha⟩
 have h : ¬ n < 1 := of_decide_eq_false h
 obtain ⟨k, rfl⟩ : ∃ k : Nat, n = (k : Int) := ⟨n.toNat, by omega⟩
 rw [Int.toNat_natCast]
 refine ite_ok (fun h1 => ?_) fun h1 => ?_
 ·have h1 : (k : Int) < ((l0.n : Nat) : Int) := of_decide_eq_true h1
  have hk : k ≤ V.length := by omega
  obtain ⟨_, _, sA, _⟩ := src_own hown hk
  refine assume_ok (decide_eq_true (Int.le_refl _)) (reslice_lo (l := l0) (by omega) ⟨rfl, ⟨_, k, l0.c⟩, rfl, ?_, ?_⟩)
  ·rw [List.length_take]
   exact ⟨(Nat.min_eq_left hk).symm, by show k ≤ l0.c; omega⟩
  ·rw [flat_take hvCells 3 (fun _ => rfl)]
   exact sA
 ·have h1 : ¬ (k : Int) < ((l0.n : Nat) : Int) := of_decide_eq_false h1
  rw [List.take_of_length_le (by omega)]
  refine ⟨rfl, l0, rfl, ⟨hn1, by omega⟩, ?_⟩
  obtain ⟨_, _, sA, _⟩ := src_own hown (Nat.le_refl _)
  rw [← hown.1, List.take_length] at sA
  refine ⟨by rw [hown.1, hn1], fun ha => ?_, fun ad ha j u hj => ?_⟩
  ·rcases hown.2 with ⟨h2, h3⟩ | ⟨g, cap, cur, h2, _⟩
   ·simp only [Value.slice.injEq] at h2
    exact ⟨h2.2.1, h2.2.2⟩
   ·simp only [Value.slice.injEq] at h2
    rw [h2.1] at ha
    cases ha
  ·rcases hown.2 with ⟨h2, h3⟩ | ⟨g, cap, cur, h2, _⟩
   ·simp only [Value.slice.injEq] at h2
    rw [h2.1] at ha
    cases ha
   ·simp only [Value.slice.injEq] at h2
    have hc := hown.cells (g := g) (by rw [h2.1]; rfl)
    rw [h2.1] at ha
    cases ha
    exact hc j u hj
end Go.Proofs.YticokfpaoiekgaaGreatDoor
end
section
namespace Go.Shp
open Go.Lex
structure Thing where
 kind : Int
 name : B
 shape : Shape
structure Dep where
 name : B
 items : List Thing
def itHit (q : Thing → Int) (d : B) (it : Thing) : Option Hit := if q it < 1 then none else some ⟨d, it.name, q it⟩
def dHits (q : Thing → Int) (d : B) (l : List Thing) : List Hit := l.filterMap (itHit q d)
def hitsOf (q : Thing → Int) (D : List Dep) : List Hit := D.flatMap fun d => dHits q d.name d.items
theorem dHits_snoc (q : Thing → Int) (d : B) (l : List Thing) (it : Thing) : dHits q d (l ++ [it]) = dHits q d l ++ (itHit q d it).toList := by
 unfold dHits
 rw [List.filterMap_append]
 cases h : itHit q d it with
 | none => simp [h]
 | some y => simp [h]
theorem hitsOf_snoc (q : Thing → Int) (D : List Dep) (d : Dep) : hitsOf q (D ++ [d]) = hitsOf q D ++ dHits q d.name d.items := by
 unfold hitsOf
 rw [List.flatMap_append, List.flatMap_cons, List.flatMap_nil, List.append_nil]
def itemsN (D : List Dep) : Nat := (D.map fun d => d.items.length).sum
theorem dHits_len (q : Thing → Int) (d : B) (l : List Thing) : (dHits q d l).length ≤ l.length := List.length_filterMap_le _ _
theorem hitsOf_len (q : Thing → Int) : ∀ D : List Dep, (hitsOf q D).length ≤ itemsN D
 | [] => Nat.le_refl _
 | d :: D => by
  have h1 := hitsOf_len q D
  have h2 := dHits_len q d.name d.items
  unfold hitsOf itemsN at *
  rw [List.flatMap_cons, List.length_append, List.map_cons, List.sum_cons]
  omega
theorem itemsN_take : ∀ (D : List Dep) (i : Nat) (d : Dep), D[i]? = some d → itemsN (D.take i) + d.items.length ≤ itemsN D
 | [], i, d, h => by simp at h
 | x :: D, 0, d, h => by
  simp only [List.getElem?_cons_zero, Option.some.injEq] at h
  subst h
  unfold itemsN
  rw [List.take_zero, List.map_nil, List.sum_nil, List.map_cons, List.sum_cons]
  omega
 | x :: D, i + 1, d, h => by
  have := itemsN_take D i d (by simpa using h)
  unfold itemsN at *
  rw [List.take_succ_cons, List.map_cons, List.map_cons, List.sum_cons, List.sum_cons]
  omega
theorem sortH_snoc (l : List Hit) (h : Hit) : sortH (l ++ [h]) = insH h (sortH l) := by
 unfold sortH
 rw [List.foldl_append]
 rfl
end Go.Shp
namespace Go.Lift
open Go.Shp Go.Lex
def itCells (kd : Int) (nm : ByteArray) (k : Int) (o n : ByteArray) (ns ps : Sl) : List Value := [.int .i64 kd, .string nm, .int .i64 k, .string o, .string n, .slice ns.a ns.n ns.c, .slice ps.a ps.n ps.c]
def ItV (w : World) (kd : Int) (nm : ByteArray) (k : Int) (o n : ByteArray) (ns ps : Sl) (it : Thing) : Prop := kd = it.kind ∧ bl nm = it.name ∧ nm.size < 4611686018427387904 ∧ ShV w k o n ns ps it.shape
def ItL (w : World) (a : Option Addr) (l : List Thing) : Prop := ∀ (i : Nat) it, l[i]? = some it → ∃ (g off : Nat) (kd : Int) (nm : ByteArray) (k : Int) (o n : ByteArray) (ns ps : Sl), a = some ⟨g, off, none⟩ ∧ Held w (⟨g, off + i * 7, none⟩, itCells kd nm k o n ns ps) ∧ ItV w kd nm k o n ns ps it
def DpV (w : World) (nm : ByteArray) (its : Sl) (d : Dep) : Prop := bl nm = d.name ∧ nm.size < 4611686018427387904 ∧ its.n = d.items.length ∧ d.items.length < 4611686018427387904 ∧ ItL w its.a d.items
def DpL (w : World) (a : Option Addr) (D : List Dep) : Prop := ∀ (i : Nat) d, D[i]? = some d → ∃ (g off : Nat) (nm : ByteArray) (its : Sl), a = some ⟨g, off, none⟩ ∧ w.cell? ⟨g, off + i * 2, none⟩ = some (.string nm) ∧ w.cell? ⟨g, off + i * 2 + 1, none⟩ = some (.slice its.a its.n its.c) ∧ DpV w nm its d
def DpR (w : World) (s : Sl) (D : List Dep) : Prop := s.n = D.length ∧ D.length < 4611686018427387904 ∧ DpL w s.a D
section
variable {w w' : World}
theorem ItV.fr {kd : Int} {nm : ByteArray} {k : Int} {o n : ByteArray} {ns ps : Sl} {it : Thing} (h : ItV w kd nm k o n ns ps it) (F : Fr noB w w') : ItV w' kd nm k o n ns ps it := ⟨h.1, h.2.1, h.2.2.1, h.2.2.2.fr F⟩
theorem ItL.fr {a : Option Addr} {l : List Thing} (h : ItL w a l) (F : Fr noB w w') : ItL w' a l := fun i it hi => by
 obtain ⟨g, off, kd, nm, k, o, n, ns, ps, h1, h2, h3⟩ := h i it hi
 exact ⟨g, off, kd, nm, k, o, n, ns, ps, h1, F.held h2 (fun h => h), h3.fr F⟩
theorem DpV.fr {nm : ByteArray} {its : Sl} {d : Dep} (h : DpV w nm its d) (F : Fr noB w w') : DpV w' nm its d := ⟨h.1, h.2.1, h.2.2.1, h.2.2.2.1, h.2.2.2.2.fr F⟩
theorem DpL.fr {a : Option Addr} {D : List Dep} (h : DpL w a D) (F : Fr noB w w') : DpL w' a D := fun i d hi => by
 obtain ⟨g, off, nm, its, h1, h2, h3, h4⟩ := h i d hi
 exact ⟨g, off, nm, its, h1, F.cell h2 (fun h => h), F.cell h3 (fun h => h), h4.fr F⟩
theorem DpR.fr {s : Sl} {D : List Dep} (h : DpR w s D) (F : Fr noB w w') : DpR w' s D := ⟨h.1, h.2.1, h.2.2.fr F⟩
variable {R : Ending → World → Prop}
theorem held_ld {g o : Nat} {l : List Value} {j : Nat} {c : CT} {x : c.T} {K : c.T → G} (h : Held w (⟨g, o, none⟩, l)) (hj : l[j]? = some (c.val x)) (hk : K x R w) : ldG c ⟨g, o + j, none⟩ K R w := by
 have := h j _ hj
 rw [Addr.add_lit] at this
 exact ld_ok this hk
theorem item_nm {a : Option Addr} {l : List Thing} {len i : Nat} {it : Thing} {K : ByteArray → G} (h : ItL w a l) (hi : l[i]? = some it) (hl : len = l.length) (hk : ∀ nm, bl nm = it.name → nm.size < 4611686018427387904 → K nm R w) :
  idxG a len (i : Int) 7 (fun (x : Addr) => ldG .str (x.add 1) K) R w := by
 obtain ⟨g, off, kd, nm, k, o, n, ns, ps, rfl, h2, h3⟩ := h i it hi
 have hil := (List.getElem?_eq_some_iff.1 hi).1
 refine idxB_ok (n := len) (i := i) (by omega) ?_
 simp only [Addr.add_lit]
 exact held_ld (c := .str) (j := 1) h2 rfl (hk nm h3.2.1 h3.2.2.1)
theorem item_sh {a : Option Addr} {l : List Thing} {len i : Nat} {it : Thing} {K : Int → ByteArray → ByteArray → Sl → Sl → G} (h : ItL w a l) (hi : l[i]? = some it) (hl : len = l.length) (hk : ∀ k o n ns ps, ShV w k o n ns ps it.shape → K k o n ns ps R w) :
  idxG a len (i : Int) 7 (fun (x : Addr) => ldG (.int .i64) ((x.add 2).add 0) (fun (k : Int) => ldG .str ((x.add 2).add 1) (fun (o : ByteArray) => ldG .str ((x.add 2).add 2) (fun (n : ByteArray) => ldG .slice ((x.add 2).add 3) (fun (ns : Sl) => ldG .slice ((x.add 2).add 4) (fun (ps : Sl) => K k o n ns ps)))))) R w := by
 obtain ⟨g, off, kd, nm, k, o, n, ns, ps, rfl, h2, h3⟩ := h i it hi
 have hil := (List.getElem?_eq_some_iff.1 hi).1
 refine idxB_ok (n := len) (i := i) (by omega) ?_
 simp only [Addr.add_lit, Nat.add_zero]
 exact held_ld (c := .int .i64) (j := 2) h2 rfl (held_ld (c := .str) (j := 3) h2 rfl (held_ld (c := .str) (j := 4) h2 rfl (held_ld (c := .slice) (x := ns) (j := 5) h2 rfl (held_ld (c := .slice) (x := ps) (j := 6) h2 rfl (hk k o n ns ps h3.2.2.2)))))
theorem item_ld {a : Option Addr} {l : List Thing} {len i : Nat} {it : Thing} {K : Int → ByteArray → Int → ByteArray → ByteArray → Sl → Sl → G} (h : ItL w a l) (hi : l[i]? = some it) (hl : len = l.length) (hk : ∀ kd nm k o n ns ps, ItV w kd nm k o n ns ps it → K kd nm k o n ns ps R w) :
  idxG a len (i : Int) 7 (fun (x : Addr) => ldG (.int .i64) (x.add 0) fun (kd : Int) => ldG .str (x.add 1) fun (nm : ByteArray) => ldG (.int .i64) (x.add 2) (fun (k : Int) => ldG .str (x.add 3) (fun (o : ByteArray) => ldG .str (x.add 4) (fun (n : ByteArray) => ldG .slice (x.add 5) (fun (ns : Sl) => ldG .slice (x.add 6) (fun (ps : Sl) => K kd nm k o n ns ps)))))) R w := by
 obtain ⟨g, off, kd, nm, k, o, n, ns, ps, rfl, h2, h3⟩ := h i it hi
 have hil := (List.getElem?_eq_some_iff.1 hi).1
 refine idxB_ok (n := len) (i := i) (by omega) ?_
 simp only [Addr.add_lit]
 exact held_ld (c := .int .i64) (j := 0) h2 rfl (held_ld (c := .str) (j := 1) h2 rfl (held_ld (c := .int .i64) (j := 2) h2 rfl (held_ld (c := .str) (j := 3) h2 rfl (held_ld (c := .str) (j := 4) h2 rfl (held_ld (c := .slice) (x := ns) (j := 5) h2 rfl (held_ld (c := .slice) (x := ps) (j := 6) h2 rfl (hk kd nm k o n ns ps h3)))))))
theorem fill7_ok {m : Nat} {t : TypeId} {l : List Value} {v0 v1 v2 v3 v4 v5 v6 : Value} {k : G} (B : Blk w m t l) (hl : l.length = 7) (h0 : v0.oneCell' = true) (h1 : v1.oneCell' = true) (h2 : v2.oneCell' = true) (h3 : v3.oneCell' = true) (h4 : v4.oneCell' = true) (h5 : v5.oneCell' = true) (h6 : v6.oneCell' = true)
  (hk : ∀ w', Blk w' m t [v0, v1, v2, v3, v4, v5, v6] → Fr (oneB m) w w' → k R w') : stG ⟨m, 0, none⟩ v0 (stG ⟨m, 1, none⟩ v1 (stG ⟨m, 2, none⟩ v2 (stG ⟨m, 3, none⟩ v3 (stG ⟨m, 4, none⟩ v4 (stG ⟨m, 5, none⟩ v5 (stG ⟨m, 6, none⟩ v6 k)))))) R w := by
 match l, hl with
 | [a, b, c, d, e, f, g], _ =>
  refine B.st h0 (by simp) fun w1 B1 F1 => B1.st h1 (by simp) fun w2 B2 F2 => B2.st h2 (by simp) fun w3 B3 F3 => B3.st h3 (by simp) fun w4 B4 F4 => B4.st h4 (by simp) fun w5 B5 F5 => B5.st h5 (by simp) fun w6 B6 F6 => B6.st h6 (by simp) fun w7 B7 F7 => ?_
  exact hk _ B7 (st_fr (st_fr (st_fr (st_fr (st_fr (st_fr F1 F2) F3) F4) F5) F6) F7)
theorem Blk.ldI {m : Nat} {t : TypeId} {kd : Int} {nm : ByteArray} {k : Int} {o n : ByteArray} {ns ps : Sl} (B : Blk w m t (itCells kd nm k o n ns ps)) {K : Int → ByteArray → ByteArray → Sl → Sl → G} (h : K k o n ns ps R w) :
  ldG (.int .i64) ⟨m, 2, none⟩ (fun (k : Int) => ldG .str ⟨m, 3, none⟩ (fun (o : ByteArray) => ldG .str ⟨m, 4, none⟩ (fun (n : ByteArray) => ldG .slice ⟨m, 5, none⟩ (fun (ns : Sl) => ldG .slice ⟨m, 6, none⟩ (fun (ps : Sl) => K k o n ns ps))))) R w :=
 B.ld (c := .int .i64) (x := k) (o := 2) rfl (B.ld (c := .str) (x := o) (o := 3) rfl (B.ld (c := .str) (x := n) (o := 4) rfl (B.ldS (o := 5) rfl (B.ldS (o := 6) rfl h))))
theorem dep_nmA {s : Sl} {D : List Dep} {i : Nat} {d : Dep} {K : Addr → ByteArray → G} (h : DpR w s D) (hi : D[i]? = some d) (hk : ∀ (a : Addr) nm, bl nm = d.name → nm.size < 4611686018427387904 → (∀ w', Fr noB w w' → Held w' (a.add 0, [.string nm])) → K a nm R w) : idxG s.a s.n (i : Int) 2 (fun (x : Addr) => ldG .str (x.add 0) (K x)) R w := by
 obtain ⟨hn, _, h⟩ := h
 obtain ⟨g, off, nm, its, h1, h2, h3, h4⟩ := h i d hi
 have hil := (List.getElem?_eq_some_iff.1 hi).1
 rw [h1]
 refine idxB_ok (n := s.n) (i := i) (by omega) ?_
 have := hk ⟨g, off + i * 2, none⟩ nm h4.1 h4.2.1 fun w' F => by
  rw [Addr.add_lit, Nat.add_zero]
  exact held_one (F.cell h2 fun h => h)
 rw [Addr.add_lit, Nat.add_zero]
 exact ld_ok (c := .str) h2 this
theorem dep_its {s : Sl} {D : List Dep} {i : Nat} {d : Dep} {K : Sl → G} (h : DpR w s D) (hi : D[i]? = some d) (hk : ∀ its, its.n = d.items.length → d.items.length < 4611686018427387904 → ItL w its.a d.items → K its R w) : idxG s.a s.n (i : Int) 2 (fun (x : Addr) => ldG .slice (x.add 1) K) R w := by
 obtain ⟨hn, _, h⟩ := h
 obtain ⟨g, off, nm, its, h1, h2, h3, h4⟩ := h i d hi
 have hil := (List.getElem?_eq_some_iff.1 hi).1
 rw [h1]
 refine idxB_ok (n := s.n) (i := i) (by omega) ?_
 simp only [Addr.add_lit]
 exact ld_ok (c := .slice) (x := its) h3 (hk its h4.2.2.1 h4.2.2.2.1 h4.2.2.2.2)
theorem dep_ld {w0 : World} {s : Sl} {D : List Dep} {i : Nat} {d : Dep} {K : ByteArray → Sl → G} (h : DpR w0 s D) (F : Fr noB w0 w) (hi : D[i]? = some d) (hk : ∀ nm its, DpV w0 nm its d → K nm its R w) : idxG s.a s.n (i : Int) 2 (fun (x : Addr) => ldG .str (x.add 0) fun (nm : ByteArray) => ldG .slice (x.add 1) (K nm)) R w := by
 obtain ⟨hn, _, h⟩ := h
 obtain ⟨g, off, nm, its, h1, h2, h3, h4⟩ := h i d hi
 have hil := (List.getElem?_eq_some_iff.1 hi).1
 rw [h1]
 refine idxB_ok (n := s.n) (i := i) (by omega) ?_
 simp only [Addr.add_lit, Nat.add_zero]
 exact ld_ok (c := .str) (F.cell h2 fun h => h) (ld_ok (c := .slice) (x := its) (F.cell h3 fun h => h) (hk nm its h4))
end
theorem countS_ok {body : (Sl → Int → G) → Sl → Int → G} {R : Ending → World → Prop} {w : World} (n : Nat) (hn : n ≤ 9223372036854775807) (I : Nat → Sl → World → Prop)
  (hbody : ∀ (rec : Sl → Int → G) (k : Nat) (l : Sl) (w : World), k ≤ n → I k l w → (k < n → ∀ l' w', I (k + 1) l' w' → rec l' (IntKind.wrap .i64 ((k : Int) + 1)) R w') → body rec l (k : Int) R w)
  {l : Sl} (h : I 0 l w) : loopG [.one .slice, .one (.int .i64)] body l (0 : Int) R w := by
 refine loop_ok (vs := [.one .slice, .one (.int .i64)]) (body := body) (fun xs w' => ∃ k : Nat, (show Int from xs.2.1.1) = (k : Int) ∧ k ≤ n ∧ I k (show Sl from xs.1.1) w') (fun xs => n - (show Int from xs.2.1.1).toNat) ?_ (xs := ((l, ()), (((0 : Int), ()), ()))) ⟨0, rfl, Nat.zero_le _, h⟩
 rintro rec ⟨⟨l1, ⟨⟩⟩, ⟨⟨i, ⟨⟩⟩, ⟨⟩⟩⟩ w1 ⟨k, hi, hk, hI⟩ hrec
 change Sl at l1
 change Int at i
 change i = _ at hi
 subst hi
 refine hbody rec k l1 w1 hk hI fun hlt l' w' hI' => ?_
 have e : IntKind.wrap .i64 ((k : Int) + 1) = ((k + 1 : Nat) : Int) := by rw [wrap_ok (by omega) (by omega)]; omega
 rw [e]
 exact hrec ((l', ()), ((((k + 1 : Nat) : Int), ()), ())) w' ⟨k + 1, rfl, by omega, hI'⟩ (by show n - ((k + 1 : Nat) : Int).toNat < n - ((k : Nat) : Int).toNat; simp only [Int.toNat_natCast]; omega)
end Go.Lift
end
section
namespace Go.Shp
open Go.Lex
theorem down_append {A B : List Hit} : Down (A ++ B) ↔ Down A ∧ Down B ∧ ∀ x ∈ A, ∀ y ∈ B, behind x y = false := List.pairwise_append
theorem behind_le {a b c : Hit} (h1 : behind a b = false) (h2 : behind b c = false) : behind a c = false := by
 rw [Bool.eq_false_iff]
 intro h
 by_cases hb : behind b a = true
 ·rw [behind_trans hb h] at h2
  cases h2
 ·have e : a = b := behind_tri h1 (by simpa using hb)
  rw [e, h2] at h
  cases h
theorem down_at {L : List Hit} (hd : Down L) {i j : Nat} {x y : Hit} (hij : i ≤ j) (hx : L[i]? = some x) (hy : L[j]? = some y) : behind x y = false := by
 obtain ⟨hi, ex⟩ := List.getElem?_eq_some_iff.1 hx
 obtain ⟨hj, ey⟩ := List.getElem?_eq_some_iff.1 hy
 rcases Nat.lt_or_eq_of_le hij with h | h
 ·have := List.pairwise_iff_getElem.1 hd i j hi hj h
  rw [ex, ey] at this
  exact this
 ·subst h
  rw [ex] at ey
  rw [ey]
  exact behind_irr _
theorem cross_ok {X1 X2 Y1 Y2 : List Hit} (hX : Down (X1 ++ X2)) (hY : Down (Y1 ++ Y2))
  (h1 : ∀ x y, 0 < X1.length → X1[X1.length - 1]? = some x → Y2[0]? = some y → behind x y = false)
  (h2 : ∀ x y, 0 < Y1.length → Y1[Y1.length - 1]? = some x → X2[0]? = some y → behind x y = false) :
  ∀ x ∈ X1 ++ Y1, ∀ y ∈ X2 ++ Y2, behind x y = false := by
 obtain ⟨hX1, hX2, hXX⟩ := down_append.1 hX
 obtain ⟨hY1, hY2, hYY⟩ := down_append.1 hY
 have key : ∀ {A B : List Hit}, Down A → Down B → (∀ x y, 0 < A.length → A[A.length - 1]? = some x → B[0]? = some y → behind x y = false) → ∀ x ∈ A, ∀ y ∈ B, behind x y = false := by
  intro A B hA hB h x hx y hy
  obtain ⟨i, hi⟩ := List.mem_iff_getElem?.1 hx
  obtain ⟨j, hj⟩ := List.mem_iff_getElem?.1 hy
  have hil := (List.getElem?_eq_some_iff.1 hi).1
  have hjl := (List.getElem?_eq_some_iff.1 hj).1
  have e1 : A[A.length - 1]? = some (A[A.length - 1]'(by omega)) := List.getElem?_eq_getElem _
  have e2 : B[0]? = some (B[0]'(by omega)) := List.getElem?_eq_getElem _
  exact behind_le (down_at hA (by omega) hi e1) (behind_le (h _ _ (by omega) e1 e2) (down_at hB (by omega) e2 hj))
 intro x hx y hy
 rcases List.mem_append.1 hx with hx | hx <;> rcases List.mem_append.1 hy with hy | hy
 ·exact hXX x hx y hy
 ·exact key hX1 hY2 h1 x hx y hy
 ·exact key hY1 hX2 h2 x hx y hy
 ·exact hYY x hx y hy
theorem halves_ok {X1 X2 Y1 Y2 W1 W2 : List Hit} (h : ∀ x ∈ X1 ++ Y1, ∀ y ∈ X2 ++ Y2, behind x y = false) (p1 : W1.Perm (X1 ++ Y1)) (p2 : W2.Perm (X2 ++ Y2)) (d1 : Down W1) (d2 : Down W2) :
  (W1 ++ W2).Perm ((X1 ++ X2) ++ (Y1 ++ Y2)) ∧ Down (W1 ++ W2) := by
 refine ⟨(p1.append p2).trans ?_, down_append.2 ⟨d1, d2, fun x hx y hy => h x (p1.mem_iff.1 hx) y (p2.mem_iff.1 hy)⟩⟩
 rw [List.append_assoc, List.append_assoc]
 refine List.Perm.append_left X1 ?_
 rw [← List.append_assoc, ← List.append_assoc]
 exact List.Perm.append_right Y2 List.perm_append_comm
theorem one_in {x : Hit} {A B : List Hit} (hd : Down (A ++ B)) (h1 : ∀ y ∈ A, behind y x = false) (h2 : ∀ y ∈ B, behind x y = false) : Down (A ++ x :: B) := by
 obtain ⟨a, b, c⟩ := down_append.1 hd
 refine down_append.2 ⟨a, List.pairwise_cons.2 ⟨h2, b⟩, fun y hy z hz => ?_⟩
 rcases List.mem_cons.1 hz with rfl | hz
 ·exact h1 y hy
 ·exact c y hy z hz
end Go.Shp
end
