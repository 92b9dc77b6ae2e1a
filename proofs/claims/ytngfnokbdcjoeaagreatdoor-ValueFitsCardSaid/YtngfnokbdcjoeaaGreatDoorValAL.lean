/- The law behind: one part of its proof (joined by program out of my own texts). No condition. -/
import Derived.Test.YtngfnokbdcjoeaaGreatDoorValAK
import Derived.Lib.CountLaws
import Derived.Lib.Join
import Derived.Lib.ItoaNum
section
namespace Go.Shp
open Go.Lex
theorem all_congr {α : Type} {f g : α → Bool} : ∀ {l : List α}, (∀ x ∈ l, f x = g x) → l.all f = l.all g
 | [], _ => rfl
 | x :: r, h => by
  rw [List.all_cons, List.all_cons, h x List.mem_cons_self, all_congr fun y hy => h y (List.mem_cons_of_mem _ hy)]
theorem vfitsF_fuel : ∀ (f g : Nat) (v s : Shape), deep v ≤ f → deep v ≤ g → vfitsF f v s = vfitsF g v s
 | 0, _, v, _, h, _ => by have := deep_pos v; omega
 | _, 0, v, _, _, h => by have := deep_pos v; omega
 | f + 1, g + 1, .mk q o t ns ps, .mk k so sn sns sps, h1, h2 => by
  rw [deep_mk] at h1 h2
  have key : ∀ x ∈ ps, ∀ p, vfitsF f x p = vfitsF g x p := fun x hx p => by
   have := deep_mem hx
   exact vfitsF_fuel f g x p (by omega) (by omega)
  unfold vfitsF
  rw [withinF_congr (f := fun p x => vfitsF f x p) (g := fun p x => vfitsF g x p) fun p _ x hx => key x hx p]
  have e1 : vlist (vfitsF f) sps ps = vlist (vfitsF g) sps ps := by
   cases sps with
   | nil => rfl
   | cons p r => exact all_congr fun x hx => key x hx p
  have e2 : vcase (vfitsF f) sns sps t ps = vcase (vfitsF g) sns sps t ps := by
   unfold vcase
   cases find sns sps t with
   | none => rfl
   | some p =>
    cases ps with
    | nil => rfl
    | cons x r => exact key x List.mem_cons_self p
  rw [e1, e2]
theorem vfitsF_vfits {f : Nat} {v s : Shape} (h : deep v ≤ f) : vfitsF f v s = vfits v s := vfitsF_fuel _ _ _ _ h (Nat.le_refl _)
theorem sizes_perm {l m : List Shape} (h : l.Perm m) : sizes l = sizes m := by
 induction h with
 | nil => rfl
 | cons x _ ih => rw [sizes, sizes, ih]
 | swap x y l => rw [sizes, sizes, sizes, sizes]; omega
 | trans _ _ h1 h2 => rw [h1, h2]
theorem deeps_perm {l m : List Shape} (h : l.Perm m) : deeps l = deeps m := by
 induction h with
 | nil => rfl
 | cons x _ ih => rw [deeps, deeps, ih]
 | swap x y l => rw [deeps, deeps, deeps, deeps]; omega
 | trans _ _ h1 h2 => rw [h1, h2]
theorem sizes_map {f : Shape → Shape} : ∀ {l : List Shape}, (∀ s ∈ l, size (f s) = size s) → sizes (l.map f) = sizes l
 | [], _ => rfl
 | s :: r, h => by
  rw [List.map_cons, sizes, sizes, h s List.mem_cons_self, sizes_map fun x hx => h x (List.mem_cons_of_mem _ hx)]
theorem deeps_map {f : Shape → Shape} : ∀ {l : List Shape}, (∀ s ∈ l, deep (f s) = deep s) → deeps (l.map f) = deeps l
 | [], _ => rfl
 | s :: r, h => by
  rw [List.map_cons, deeps, deeps, h s List.mem_cons_self, deeps_map fun x hx => h x (List.mem_cons_of_mem _ hx)]
theorem pairs_snd {ns : List B} {ps : List Shape} (h : ns.length = ps.length) : ((pairs ns ps).map (·.2)).Perm (ps.map sortS) := by
 have := (sortP_perm (ns.zip (ps.map sortS))).map (·.2)
 have e : (ns.zip (ps.map sortS)).map (·.2) = ps.map sortS := List.map_snd_zip (by rw [List.length_map, h]; exact Nat.le_refl _)
 rw [e] at this
 exact this
def Lens : Nat → Shape → Prop
 | 0, _ => True
 | d + 1, .mk _ _ _ ns ps => (ns ≠ [] → ns.length = ps.length ∧ ns.Nodup) ∧ ∀ p ∈ ps, Lens d p
theorem lens_fit : ∀ (d : Nat) {s : Shape}, allFit s = true → Lens d s
 | 0, _, _ => trivial
 | d + 1, .mk k o n ns ps, h => by
  obtain ⟨h1, h2⟩ := allFit_parts h
  refine ⟨fun hn => ?_, fun p hp => lens_fit d (h2 p hp)⟩
  by_cases hk : k = 6 ∨ k = 7
  ·exact fits_named h1 hk
  ·exfalso
   unfold fits at h1
   simp only [] at h1
   rw [if_neg (c := k = 6 ∨ k = 7) hk] at h1
   have : ns.isEmpty = false := by cases ns with
    | nil => exact absurd rfl hn
    | cons _ _ => rfl
   rw [this] at h1
   repeat' split at h1
   all_goals simp at h1
theorem sort_size : ∀ (d : Nat) {s : Shape}, deep s ≤ d → Lens d s → size (sortS s) = size s ∧ deep (sortS s) = deep s
 | 0, s, h, _ => by have := deep_pos s; omega
 | d + 1, .mk k o n ns ps, h, hl => by
  rw [deep_mk] at h
  have ih : ∀ p ∈ ps, size (sortS p) = size p ∧ deep (sortS p) = deep p := fun p hp => sort_size d (by have := deep_mem hp; omega) (hl.2 p hp)
  by_cases hn : ns = []
  ·subst hn
   rw [sortS_nil, size_mk, size_mk, deep_mk, deep_mk, sizes_map fun p hp => (ih p hp).1, deeps_map fun p hp => (ih p hp).2]
   exact ⟨rfl, rfl⟩
  ·have hp := pairs_snd (hl.1 hn).1
   rw [sortS_cons hn, size_mk, size_mk, deep_mk, deep_mk, sizes_perm hp, deeps_perm hp, sizes_map fun p hp => (ih p hp).1, deeps_map fun p hp => (ih p hp).2]
   exact ⟨rfl, rfl⟩
theorem check_sort {s : Shape} (h : check s = 0) : check (sortS s) = 0 := by
 obtain ⟨h1, h2, h3⟩ := check_ok.1 h
 have hs := sort_size (deep s) (Nat.le_refl _) (lens_fit _ h3)
 exact check_ok.2 ⟨by rw [hs.1]; exact h1, by rw [hs.2]; exact h2, (sort_facts (deep s) s (Nat.le_refl _) h3).1⟩
mutual
def turn : Shape → Shape
 | .mk q o t ns ps => if ns = [] then .mk q o t [] (turnL ps) else .mk q o t ns.reverse (turnL ps).reverse
def turnL : List Shape → List Shape
 | [] => []
 | s :: r => turn s :: turnL r
end
theorem turnL_map : ∀ l : List Shape, turnL l = l.map turn
 | [] => by rw [turnL]; rfl
 | s :: r => by rw [turnL, turnL_map r]; rfl
theorem turn_nil (q : Int) (o t : B) (ps : List Shape) : turn (.mk q o t [] ps) = .mk q o t [] (ps.map turn) := by rw [turn, if_pos rfl, turnL_map]
theorem turn_cons {q : Int} {o t : B} {ns : List B} {ps : List Shape} (h : ns ≠ []) : turn (.mk q o t ns ps) = .mk q o t ns.reverse (ps.map turn).reverse := by rw [turn, if_neg h, turnL_map]
theorem turn_size : ∀ (d : Nat) {v : Shape}, deep v ≤ d → size (turn v) = size v ∧ deep (turn v) = deep v
 | 0, v, h => by have := deep_pos v; omega
 | d + 1, .mk q o t ns ps, h => by
  rw [deep_mk] at h
  have ih : ∀ p ∈ ps, size (turn p) = size p ∧ deep (turn p) = deep p := fun p hp => turn_size d (by have := deep_mem hp; omega)
  by_cases hn : ns = []
  ·subst hn
   rw [turn_nil, size_mk, size_mk, deep_mk, deep_mk, sizes_map fun p hp => (ih p hp).1, deeps_map fun p hp => (ih p hp).2]
   exact ⟨rfl, rfl⟩
  ·rw [turn_cons hn, size_mk, size_mk, deep_mk, deep_mk, sizes_perm (List.reverse_perm _), deeps_perm (List.reverse_perm _), sizes_map fun p hp => (ih p hp).1, deeps_map fun p hp => (ih p hp).2]
   exact ⟨rfl, rfl⟩
theorem turn_formed : ∀ (d : Nat) {v : Shape}, deep v ≤ d → formed v = true → formed (turn v) = true
 | 0, v, h, _ => by have := deep_pos v; omega
 | d + 1, .mk q o t ns ps, h, hf => by
  rw [deep_mk] at h
  obtain ⟨h1, h2⟩ := formed_parts hf
  have hm : formeds (ps.map turn) = true := formeds_of fun s hs => by
   obtain ⟨p, hp, rfl⟩ := List.mem_map.1 hs
   exact turn_formed d (by have := deep_mem hp; omega) (h2 p hp)
  by_cases hn : ns = []
  ·subst hn
   rw [turn_nil, formed, hm, Bool.and_true]
   unfold vform at h1 ⊢
   simpa using h1
  ·have h5 : kOf q = 5 := Decidable.byContradiction fun h => hn ((vform_names h1).1 h)
   rw [turn_cons hn, formed, formeds_of (l := (ps.map turn).reverse) fun s hs => formeds_mem hm (List.mem_reverse.1 hs), Bool.and_true]
   unfold vform at h1 ⊢
   simp only [] at h1 ⊢
   rw [if_neg (by omega), if_neg (by omega), if_neg (by omega), if_neg (by omega), if_pos h5] at h1 ⊢
   unfold namedOk at h1 ⊢
   simp only [Bool.and_eq_true, decide_eq_true_eq, List.length_reverse, List.length_map, List.all_reverse, (List.reverse_perm ns).nodup_iff] at h1 ⊢
   exact h1
theorem zip_reverse {α β : Type} : ∀ {l : List α} {m : List β}, l.length = m.length → l.reverse.zip m.reverse = (l.zip m).reverse
 | [], [], _ => rfl
 | [], _ :: _, h => by simp at h
 | _ :: _, [], h => by simp at h
 | a :: l, b :: m, h => by
  rw [List.reverse_cons, List.reverse_cons, List.zip_append (by simpa using h), zip_reverse (by simpa using h), List.zip_cons_cons, List.zip_cons_cons, List.reverse_cons]
  rfl
theorem sort_turn : ∀ (d : Nat) {v : Shape}, deep v ≤ d → formed v = true → sortS (turn v) = sortS v
 | 0, v, h, _ => by have := deep_pos v; omega
 | d + 1, .mk q o t ns ps, h, hf => by
  rw [deep_mk] at h
  obtain ⟨h1, h2⟩ := formed_parts hf
  have ih : (ps.map turn).map sortS = ps.map sortS := by
   rw [List.map_map]
   exact List.map_congr_left fun p hp => sort_turn d (by have := deep_mem hp; omega) (h2 p hp)
  by_cases hn : ns = []
  ·subst hn
   rw [turn_nil, sortS_nil, sortS_nil, ih]
  ·obtain ⟨hl, hnd⟩ := vform_len h1 hn
   have hr : ns.reverse ≠ [] := by simpa using hn
   rw [turn_cons hn, sortS_cons hr, sortS_cons hn]
   have : pairs ns.reverse (ps.map turn).reverse = pairs ns ps := by
    unfold pairs
    rw [List.map_reverse, ih, zip_reverse (by rw [List.length_map, hl])]
    have hfst : (ns.zip (ps.map sortS)).map (·.1) = ns := zip_fst (by rw [List.length_map, hl])
    refine (up_sortP (l := ns.zip (ps.map sortS)) (m := sortP (ns.zip (ps.map sortS)).reverse) (by rw [hfst]; exact hnd) (sortP_up ?_) ((sortP_perm _).trans (List.reverse_perm _)))
    rw [List.map_reverse, hfst]
    exact (List.reverse_perm ns).nodup_iff.2 hnd
   rw [this]
theorem find_turn {ns : List B} {ps : List Shape} {n : B} (hl : ns.length = ps.length) (hn : ns.Nodup) : find ns.reverse (ps.map turn).reverse n = (find ns ps n).map turn := by
 cases h : find ns ps n with
 | none =>
  have := (find_none hl).1 h
  rw [Option.map_none, find_none (by simpa using hl)]
  simpa using this
 | some p =>
  obtain ⟨i, h1, h2⟩ := (find_iff hn).1 h
  have hi := (List.getElem?_eq_some_iff.1 h1).1
  rw [Option.map_some, find_iff ((List.reverse_perm ns).nodup_iff.2 hn)]
  refine ⟨ns.length - 1 - i, ?_, ?_⟩
  ·rw [List.getElem?_reverse (by omega), show ns.length - 1 - (ns.length - 1 - i) = i by omega]
   exact h1
  ·rw [List.getElem?_reverse (by simp; omega), List.length_map, ← hl, show ns.length - 1 - (ns.length - 1 - i) = i by omega, List.getElem?_map, h2]
   rfl
theorem within_turn {f g : Shape → Shape → Bool} {ns : List B} {ps : List Shape} (hl : ns.length = ps.length) (hn : ns.Nodup) : ∀ {sns : List B} {sps : List Shape}, (∀ p ∈ sps, ∀ x ∈ ps, g p (turn x) = f p x) → withinF g sns sps ns.reverse (ps.map turn).reverse = withinF f sns sps ns ps
 | [], _, _ => by simp [withinF]
 | _ :: _, [], _ => by simp [withinF]
 | n :: sns, p :: sps, h => by
  unfold withinF
  rw [within_turn hl hn fun p hp x hx => h p (List.mem_cons_of_mem _ hp) x hx, find_turn hl hn]
  cases hf : find ns ps n with
  | none => rfl
  | some x =>
   simp only [Option.map_some]
   rw [h p List.mem_cons_self x (find_mem hf)]
theorem fits_turn : ∀ (f : Nat) (v s : Shape), formed v = true → vfitsF f (turn v) s = vfitsF f v s
 | 0, _, _, _ => by simp [vfitsF]
 | f + 1, .mk q o t ns ps, .mk k so sn sns sps, hf => by
  obtain ⟨h1, h2⟩ := formed_parts hf
  have ih : ∀ x ∈ ps, ∀ p, vfitsF f (turn x) p = vfitsF f x p := fun x hx p => fits_turn f x p (h2 x hx)
  by_cases hn : ns = []
  ·subst hn
   rw [turn_nil]
   unfold vfitsF
   have e1 : vlist (vfitsF f) sps (ps.map turn) = vlist (vfitsF f) sps ps := by
    unfold vlist
    cases sps with
    | nil => cases ps <;> rfl
    | cons p r =>
     simp only [List.all_map]
     exact all_congr fun x hx => ih x hx p
   have e2 : vcase (vfitsF f) sns sps t (ps.map turn) = vcase (vfitsF f) sns sps t ps := by
    unfold vcase
    cases find sns sps t with
    | none => rfl
    | some p =>
     cases ps with
     | nil => rfl
     | cons x r => exact ih x List.mem_cons_self p
   have e3 : withinF (fun p x => vfitsF f x p) sns sps [] (ps.map turn) = withinF (fun p x => vfitsF f x p) sns sps [] ps := by
    cases sns with
    | nil => simp [withinF]
    | cons n sns =>
     cases sps with
     | nil => simp [withinF]
     | cons p sps => simp [withinF, find]
   rw [e1, e2, e3]
  ·obtain ⟨hl, hnd⟩ := vform_len h1 hn
   have h5 : kOf q = 5 := Decidable.byContradiction fun h => hn ((vform_names h1).1 h)
   rw [turn_cons hn]
   unfold vfitsF
   simp only [h5]
   rw [within_turn hl hnd fun p _ x hx => ih x hx p]
   simp
mutual
theorem eqS_refl : ∀ a : Shape, eqS a a = true
 | .mk k o n ns ps => by
  unfold eqS
  rw [eqL_refl ps]
  simp
theorem eqL_refl : ∀ l : List Shape, eqL l l = true
 | [] => by rw [eqL]
 | a :: r => by
  unfold eqL
  rw [eqS_refl a, eqL_refl r]
  rfl
end
theorem same_turn {v : Shape} (h : vcheck v = 0) : vcheck (turn v) = 0 ∧ vsame v (turn v) = true := by
 obtain ⟨h1, h2, h3⟩ := vcheck_ok.1 h
 have hs := turn_size (deep v) (Nat.le_refl _)
 have hc : vcheck (turn v) = 0 := vcheck_ok.2 ⟨by rw [hs.1]; exact h1, by rw [hs.2]; exact h2, turn_formed _ (Nat.le_refl _) h3⟩
 refine ⟨hc, ?_⟩
 unfold vsame
 rw [h, hc, sort_turn _ (Nat.le_refl _) h3]
 simp only [beq_self_eq_true, Bool.true_and]
 exact eqS_refl _
theorem fits_below : ∀ (f g : Nat) (v s t : Shape), allFit s = true → allFit t = true → belowF g s t = true → vfitsF f v s = true → vfitsF f v t = true
 | 0, _, _, _, _, _, _, _, h => by simp [vfitsF] at h
 | _, 0, _, _, _, _, _, h, _ => by simp [belowF] at h
 | f + 1, g + 1, .mk q o tx ns ps, .mk ka oa na nsa psa, .mk kb ob nb nsb psb, ha, hb, hbe, hv => by
  obtain ⟨fa, pa⟩ := allFit_parts ha
  obtain ⟨fb, pb⟩ := allFit_parts hb
  unfold belowF at hbe
  by_cases hk : ka ≠ kb
  ·rw [if_pos hk] at hbe; cases hbe
  rw [if_neg hk] at hbe
  have hk : ka = kb := by omega
  subst hk
  have ih : ∀ x, ∀ p ∈ psa, ∀ p' ∈ psb, belowF g p p' = true → vfitsF f x p = true → vfitsF f x p' = true := fun x p hp p' hp' => fits_below f g x p p' (pa p hp) (pb p' hp')
  unfold vfitsF at hv ⊢
  by_cases k4 : ka = 4
  ·rw [if_pos k4]
  rw [if_neg k4] at hv ⊢
  by_cases q1 : kOf q = 1
  ·rw [if_pos q1] at hv ⊢; exact hv
  rw [if_neg q1] at hv ⊢
  by_cases q2 : kOf q = 2
  ·rw [if_pos q2] at hv ⊢; exact hv
  rw [if_neg q2] at hv ⊢
  by_cases q3 : kOf q = 3
  ·rw [if_pos q3] at hv ⊢; exact hv
  rw [if_neg q3] at hv ⊢
  by_cases q7 : kOf q = 7
  ·rw [if_pos q7] at hv ⊢
   simp only [Bool.and_eq_true, decide_eq_true_eq, beq_iff_eq] at hv ⊢
   rw [if_pos (by omega)] at hbe
   simp only [Bool.and_eq_true, beq_iff_eq] at hbe
   rw [← hbe.1, ← hbe.2]
   exact hv
  rw [if_neg q7] at hv ⊢
  by_cases q8 : kOf q = 8
  ·rw [if_pos q8] at hv ⊢
   simp only [Bool.and_eq_true, decide_eq_true_eq] at hv ⊢
   rw [if_neg (by omega), if_neg (by omega), if_neg (by omega), funAll_iff] at hbe
   rw [← hbe.1]
   exact hv
  rw [if_neg q8] at hv ⊢
  by_cases q4 : kOf q = 4
  ·rw [if_pos q4] at hv ⊢
   rw [Bool.and_eq_true, decide_eq_true_eq] at hv ⊢
   refine ⟨hv.1, ?_⟩
   have hk5 := hv.1
   rw [if_neg (by omega), if_neg (by omega), if_neg (by omega), funAll_iff] at hbe
   obtain ⟨hl, hall⟩ := hbe
   cases psa with
   | nil =>
    cases psb with
    | nil => exact hv.2
    | cons y r => simp at hl
   | cons x r =>
    cases psb with
    | nil => simp at hl
    | cons y u =>
     have h1 : r = [] := by
      unfold fits at fa
      simp only [] at fa
      rw [if_neg (by omega), if_pos hk5] at fa
      simp only [Bool.and_eq_true, decide_eq_true_eq, List.length_cons] at fa
      exact List.eq_nil_of_length_eq_zero (by omega)
     subst h1
     have hxy := hall 0 x y rfl rfl
     rw [if_pos (show 0 + 1 = [x].length from rfl)] at hxy
     unfold vlist at hv ⊢
     simp only [] at hv ⊢
     rw [List.all_eq_true] at hv ⊢
     exact fun z hz => ih z x List.mem_cons_self y List.mem_cons_self hxy (hv.2 z hz)
  rw [if_neg q4] at hv ⊢
  by_cases q6 : kOf q = 6
  ·rw [if_pos q6] at hv ⊢
   rw [Bool.and_eq_true, decide_eq_true_eq] at hv ⊢
   refine ⟨hv.1, ?_⟩
   have hk7 := hv.1
   obtain ⟨la, da⟩ := fits_named fa (.inr hk7)
   rw [if_neg (by omega), if_neg (by omega), if_pos hk7, withinF_iff] at hbe
   have hv2 := hv.2
   unfold vcase at hv2 ⊢
   cases hf : find nsa psa tx with
   | none => rw [hf] at hv2; cases hv2
   | some p =>
    rw [hf] at hv2
    obtain ⟨i, h1, h2⟩ := (find_iff da).1 hf
    obtain ⟨p', h3, h4⟩ := hbe i tx p h1 h2
    rw [h3]
    cases ps with
    | nil => cases hv2
    | cons x r => exact ih x p (find_mem hf) p' (find_mem h3) h4 hv2
  rw [if_neg q6] at hv ⊢
  rw [Bool.and_eq_true, decide_eq_true_eq] at hv ⊢
  refine ⟨hv.1, ?_⟩
  have hk6 := hv.1
  obtain ⟨la, da⟩ := fits_named fa (.inl hk6)
  rw [if_neg (by omega), if_pos hk6, withinF_iff] at hbe
  have hv2 := hv.2
  rw [withinF_iff] at hv2 ⊢
  intro i n p hn hp
  obtain ⟨p', h1, h2⟩ := hbe i n p hn hp
  obtain ⟨j, h3, h4⟩ := (find_iff da).1 h1
  obtain ⟨x, h5, h6⟩ := hv2 j n p' h3 h4
  exact ⟨x, h5, ih x p' (find_mem h1) p (List.mem_of_getElem? hp) h2 h6⟩
theorem isFits_below {v s t : Shape} (hv : isFits v s = true) (hb : isBelow s t = true) : isFits v t = true := by
 unfold isFits at hv ⊢
 unfold isBelow at hb
 simp only [Bool.and_eq_true, beq_iff_eq] at hv hb ⊢
 obtain ⟨_, _, fs⟩ := check_ok.1 hb.1.1
 obtain ⟨_, _, ft⟩ := check_ok.1 hb.1.2
 exact ⟨⟨hv.1.1, hb.1.2⟩, fits_below _ _ v s t fs ft hb.2 hv.2⟩
theorem isFits_sort {v s : Shape} (hv : isFits v s = true) : isFits v (sortS s) = true := by
 unfold isFits at hv ⊢
 simp only [Bool.and_eq_true, beq_iff_eq] at hv ⊢
 obtain ⟨_, _, fs⟩ := check_ok.1 hv.1.2
 have h := sort_facts (deep s) s (Nat.le_refl _) fs
 exact ⟨⟨hv.1.1, check_sort hv.1.2⟩, fits_below _ _ v s (sortS s) fs h.1 (h.2.2 _ (Nat.le_refl _)).1 hv.2⟩
theorem isFits_any {v s : Shape} (hv : isFits v s = true) : isFits v (.mk 4 [] [] [] []) = true := by
 unfold isFits at hv ⊢
 simp only [Bool.and_eq_true, beq_iff_eq] at hv ⊢
 refine ⟨⟨hv.1.1, by simp [check, size, sizes, deep, deeps, allFit, allFits, fits]⟩, ?_⟩
 unfold vfits
 cases v
 rw [deep_mk, Nat.add_comm]
 simp [vfitsF]
end Go.Shp
end
section
namespace Go.Lex
def kset : List UInt8 := [92, 34, 9, 10]
def isKey (c : UInt8) : Bool := kset.contains c
end Go.Lex
end
section
namespace Go.Lex
def show1 (k : Int) (t : B) : Option B := match scan (written k t) with
 | .ok [a, _] => if (a.kind : Int) = k ∧ a.text = t ∧ a.at' = 0 ∧ written k t ≠ [] ∧ (k ≠ 4 → a.text = written k t) then some (written k t) else none
 | _ => none
end Go.Lex
end
section
namespace Go.Shp
open Go.Lex
mutual
def vtext : Shape → B
 | .mk q o t ns ps =>
  if kOf q = 1 then Lib.itoa (zOf q)
  else if kOf q = 2 then quote t
  else if kOf q = 3 then (if zOf q = 1 then [116, 114, 117, 101] else [102, 97, 108, 115, 101])
  else if kOf q = 4 then 91 :: (Lib.join (vtexts ps) [44, 32] ++ [93])
  else if kOf q = 5 then 123 :: (Lib.join (List.zipWith (fun n s => n ++ [32, 61, 32] ++ s) ns (vtexts ps)) [44, 32] ++ [125])
  else if kOf q = 6 then 64 :: (t ++ 40 :: ((vtexts ps).headD [] ++ [41]))
  else if kOf q = 7 then o ++ 47 :: (t ++ 40 :: ((vtexts ps).headD [] ++ [41]))
  else [102, 117, 110, 47] ++ Lib.itoa (zOf q)
def vtexts : List Shape → List B
 | [] => []
 | s :: r => vtext s :: vtexts r
end
theorem vtexts_map : ∀ l : List Shape, vtexts l = l.map vtext
 | [] => by rw [vtexts]; rfl
 | s :: r => by rw [vtexts, vtexts_map r]; rfl
mutual
def vquot : Shape → Bool
 | .mk q _ t _ ps => (decide (kOf q ≠ 2) || (show1 4 t).isSome) && vquots ps
def vquots : List Shape → Bool
 | [] => true
 | s :: r => vquot s && vquots r
end
def vshow (v : Shape) : Nat × B := if vcheck v ≠ 0 then (vcheck v, []) else if vquot v then (0, vtext v) else (290, [])
def Stop (x : B) : Prop := ∀ c r, x = c :: r → c = 44 ∨ c = 93 ∨ c = 125 ∨ c = 41
theorem dec_small {u : Nat} (h : u < 10) : Lib.decDigits u = [UInt8.ofNat (48 + u)] := by rw [Lib.decDigits, dif_pos h]
end Go.Shp
end
section
namespace Go.Shp
open Go.Lex
section
variable {q : Int} {o t : B} {ns : List B} {ps : List Shape}
theorem vform_kind (h : vform (.mk q o t ns ps) = true) : 1 ≤ kOf q ∧ kOf q ≤ 8 := by
 unfold vform at h
 simp only [] at h
 repeat' split at h
 all_goals first | omega | cases h
theorem form5 (h : vform (.mk q o t ns ps) = true) (k : kOf q = 5) : o = [] ∧ t = [] ∧ zOf q = 0 ∧ ns.length = ps.length ∧ (∀ n ∈ ns, isName n = true) ∧ ns.Nodup := by
 unfold vform namedOk at h
 simp only [k] at h
 simpa [and_assoc] using h
theorem form6 (h : vform (.mk q o t ns ps) = true) (k : kOf q = 6) : o = [] ∧ zOf q = 0 ∧ ns = [] ∧ isName t = true ∧ ps.length = 1 := by
 unfold vform at h
 simp only [k] at h
 simpa [and_assoc] using h
theorem form7 (h : vform (.mk q o t ns ps) = true) (k : kOf q = 7) : isName o = true ∧ isUpper t = true ∧ zOf q = 0 ∧ ns = [] ∧ ps.length = 1 := by
 unfold vform at h
 simp only [k] at h
 simpa [and_assoc] using h
theorem form8 (h : vform (.mk q o t ns ps) = true) (k : kOf q = 8) : o = [] ∧ t = [] ∧ ns = [] ∧ ps = [] ∧ 0 ≤ zOf q ∧ zOf q ≤ 1000 := by
 unfold vform at h
 simp only [k] at h
 simpa [and_assoc] using h
theorem text1 (k : kOf q = 1) : vtext (.mk q o t ns ps) = Lib.itoa (zOf q) := by rw [vtext, if_pos k]
theorem text2 (k : kOf q = 2) : vtext (.mk q o t ns ps) = quote t := by rw [vtext, if_neg (by omega), if_pos k]
theorem text3 (k : kOf q = 3) : vtext (.mk q o t ns ps) = if zOf q = 1 then [116, 114, 117, 101] else [102, 97, 108, 115, 101] := by rw [vtext, if_neg (by omega), if_neg (by omega), if_pos k]
theorem text4 (k : kOf q = 4) : vtext (.mk q o t ns ps) = 91 :: (Lib.join (ps.map vtext) [44, 32] ++ [93]) := by rw [vtext, if_neg (by omega), if_neg (by omega), if_neg (by omega), if_pos k, vtexts_map]
def ftext (a : B × Shape) : B := a.1 ++ 32 :: 61 :: 32 :: vtext a.2
theorem zip_ftext : ∀ (ns : List B) (ps : List Shape), List.zipWith (fun n s => n ++ [32, 61, 32] ++ s) ns (ps.map vtext) = (ns.zip ps).map ftext
 | [], _ => rfl
 | _ :: _, [] => rfl
 | n :: ns, p :: ps => by
  rw [List.map_cons, List.zipWith_cons_cons, List.zip_cons_cons, List.map_cons, zip_ftext ns ps]
  simp [ftext]
theorem text5 (k : kOf q = 5) : vtext (.mk q o t ns ps) = 123 :: (Lib.join ((ns.zip ps).map ftext) [44, 32] ++ [125]) := by rw [vtext, if_neg (by omega), if_neg (by omega), if_neg (by omega), if_neg (by omega), if_pos k, vtexts_map, zip_ftext]
theorem text6 {p : Shape} (k : kOf q = 6) : vtext (.mk q o t ns [p]) = 64 :: (t ++ 40 :: (vtext p ++ [41])) := by rw [vtext, if_neg (by omega), if_neg (by omega), if_neg (by omega), if_neg (by omega), if_neg (by omega), if_pos k, vtexts_map]; rfl
theorem text7 {p : Shape} (k : kOf q = 7) : vtext (.mk q o t ns [p]) = o ++ 47 :: (t ++ 40 :: (vtext p ++ [41])) := by rw [vtext, if_neg (by omega), if_neg (by omega), if_neg (by omega), if_neg (by omega), if_neg (by omega), if_neg (by omega), if_pos k, vtexts_map]; rfl
theorem text8 (k : kOf q = 8) : vtext (.mk q o t ns ps) = [102, 117, 110] ++ 47 :: Lib.itoa (zOf q) := by rw [vtext, if_neg (by omega), if_neg (by omega), if_neg (by omega), if_neg (by omega), if_neg (by omega), if_neg (by omega), if_neg (by omega)]; rfl
end
end Go.Shp
end
section

end
